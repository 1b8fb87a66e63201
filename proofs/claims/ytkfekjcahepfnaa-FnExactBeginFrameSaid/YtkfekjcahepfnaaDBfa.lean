/-
  The functions that FnExactBeginFrame reaches, as typed Lean functions, and that the interpreter computes them. Part 1 of 2. No conditions.
-/
import Derived.Test.YtkfekjcahepfnaaKzh
import Derived.Test.YtkfekjcahepfnaaProg
set_option linter.unusedVariables false
set_option linter.unusedSimpArgs false
set_option maxRecDepth 100000
namespace Go.Proofs.Ytkfekjcahepfnaa.K
noncomputable section
def hh : Hints := { modes := fun k => bif Nat.beq k 31 || Nat.beq k 93 || Nat.beq k 94 || Nat.beq k 135 || Nat.beq k 149 || Nat.beq k 211 || Nat.beq k 212 || Nat.beq k 213 || Nat.beq k 301 then [.exact] else [], thaw := fun k => Nat.beq k 53 || Nat.beq k 90 || Nat.beq k 91 || Nat.beq k 97 || Nat.beq k 143 || Nat.beq k 144 || Nat.beq k 170 || Nat.beq k 208 || Nat.beq k 269 || Nat.beq k 325, grow := fun k => Nat.beq k 271, keep := fun k => Nat.beq k 90 || Nat.beq k 91 || Nat.beq k 144 || Nat.beq k 170 }
structure Turn where
  Switch : Int
  Lie : Int
instance : GoT Turn := ⟨2, by decide, fun l x => GoT.encL l x.Switch ++ (GoT.encL l x.Lie), fun x => by simp only [List.length_append, GoT.len]; rfl, fun x => by simp only [cleanL_append, GoT.clean]; rfl, fun x => by simp only [List.all_append, GoT.cell]; rfl⟩
instance : GoM Turn := GoM.via (fun x => (x.Switch, x.Lie) : Turn → Int × Int) rfl fun _ _ => rfl
instance : GoFl Turn := ⟨fun G x => GoFl.fl (α := Int × Int) G (x.Switch, x.Lie), fun l x => GoFl.lev (α := Int × Int) l (x.Switch, x.Lie), GoFl.pos (α := Int × Int)⟩
theorem foc_Turn_Switch : Foc Turn Int (fun x => x.Switch) (fun x y => { x with Switch := y }) 0 := Foc.via (α := Turn) (f := (fun x => (x.Switch, x.Lie) : Turn → Int × Int)) (hz := rfl) (he := fun _ _ => rfl) (Foc.fst) fun _ _ => rfl
theorem foc_Turn_Lie : Foc Turn Int (fun x => x.Lie) (fun x y => { x with Lie := y }) 1 := Foc.via (α := Turn) (f := (fun x => (x.Switch, x.Lie) : Turn → Int × Int)) (hz := rfl) (he := fun _ _ => rfl) (Foc.snd) fun _ _ => rfl
structure Way where
  Sections : List Int
  Lies : List Turn
  Flanks : List Turn
  Over : List Int
  Near : List Int
instance : GoT Way := ⟨5, by decide, fun l x => GoT.encL l x.Sections ++ (GoT.encL l x.Lies ++ (GoT.encL l x.Flanks ++ (GoT.encL l x.Over ++ (GoT.encL l x.Near)))), fun x => by simp only [List.length_append, GoT.len]; rfl, fun x => by simp only [cleanL_append, GoT.clean]; rfl, fun x => by simp only [List.all_append, GoT.cell]; rfl⟩
instance : GoM Way := GoM.via (fun x => (x.Sections, x.Lies, x.Flanks, x.Over, x.Near) : Way → (List Int) × (List Turn) × (List Turn) × (List Int) × (List Int)) rfl fun _ _ => rfl
theorem foc_Way_Sections : Foc Way (List Int) (fun x => x.Sections) (fun x y => { x with Sections := y }) 0 := Foc.via (α := Way) (f := (fun x => (x.Sections, x.Lies, x.Flanks, x.Over, x.Near) : Way → (List Int) × (List Turn) × (List Turn) × (List Int) × (List Int))) (hz := rfl) (he := fun _ _ => rfl) (Foc.fst) fun _ _ => rfl
theorem foc_Way_Lies : Foc Way (List Turn) (fun x => x.Lies) (fun x y => { x with Lies := y }) 1 := Foc.via (α := Way) (f := (fun x => (x.Sections, x.Lies, x.Flanks, x.Over, x.Near) : Way → (List Int) × (List Turn) × (List Turn) × (List Int) × (List Int))) (hz := rfl) (he := fun _ _ => rfl) (Foc.comp Foc.snd (Foc.fst)) fun _ _ => rfl
theorem foc_Way_Flanks : Foc Way (List Turn) (fun x => x.Flanks) (fun x y => { x with Flanks := y }) 2 := Foc.via (α := Way) (f := (fun x => (x.Sections, x.Lies, x.Flanks, x.Over, x.Near) : Way → (List Int) × (List Turn) × (List Turn) × (List Int) × (List Int))) (hz := rfl) (he := fun _ _ => rfl) (Foc.comp Foc.snd (Foc.comp Foc.snd (Foc.fst))) fun _ _ => rfl
theorem foc_Way_Over : Foc Way (List Int) (fun x => x.Over) (fun x y => { x with Over := y }) 3 := Foc.via (α := Way) (f := (fun x => (x.Sections, x.Lies, x.Flanks, x.Over, x.Near) : Way → (List Int) × (List Turn) × (List Turn) × (List Int) × (List Int))) (hz := rfl) (he := fun _ _ => rfl) (Foc.comp Foc.snd (Foc.comp Foc.snd (Foc.comp Foc.snd (Foc.fst)))) fun _ _ => rfl
theorem foc_Way_Near : Foc Way (List Int) (fun x => x.Near) (fun x y => { x with Near := y }) 4 := Foc.via (α := Way) (f := (fun x => (x.Sections, x.Lies, x.Flanks, x.Over, x.Near) : Way → (List Int) × (List Turn) × (List Turn) × (List Int) × (List Int))) (hz := rfl) (he := fun _ _ => rfl) (Foc.comp Foc.snd (Foc.comp Foc.snd (Foc.comp Foc.snd (Foc.snd)))) fun _ _ => rfl
theorem th_Way {H : Heap} {d n : Nat} {rs rs1 : List Res} {cs : List V} {x : Way} (h : ThV n H d rs cs (x.Sections, x.Lies, x.Flanks, x.Over, x.Near) rs1) : ThV n H d rs cs x rs1 := h
theorem ls_Way {H G : Heap} {rs : List Res} {S F : List Nat} {x : Way} {cs : List V} {j : Nat} (hO : Owns H G rs) (hj : rs[j]? = some (Tree S F x cs)) (lv n : Nat) (hn : Nat.ble (GoM.dep Way) n = true := by rfl) : ∃ M, lendV lv G (n + 1) (.agg cs) = some (.agg [.lit lv x.Sections.length ((flatL 0) x.Sections), .lit lv x.Lies.length ((flatL 0) x.Lies), .lit lv x.Flanks.length ((flatL 0) x.Flanks), .lit lv x.Over.length ((flatL 0) x.Over), .lit lv x.Near.length ((flatL 0) x.Near)], M) := by
  have h := ld_trS hO hj lv n hn
  have e : GoT.encL lv x = [.lit lv x.Sections.length ((flatL 0) x.Sections), .lit lv x.Lies.length ((flatL 0) x.Lies), .lit lv x.Flanks.length ((flatL 0) x.Flanks), .lit lv x.Over.length ((flatL 0) x.Over), .lit lv x.Near.length ((flatL 0) x.Near)] := by
    show ([.lit lv x.Sections.length (flatL lv x.Sections), .lit lv x.Lies.length (flatL lv x.Lies), .lit lv x.Flanks.length (flatL lv x.Flanks), .lit lv x.Over.length (flatL lv x.Over), .lit lv x.Near.length (flatL lv x.Near)] : List V) = _
    simp only [flat_lv]
  rwa [e] at h
structure Plan where
  Sections : Int
  Switches : List Int
  Ways : List Way
  Bars : List (List Bool)
  Hold : Int
instance : GoT Plan := ⟨5, by decide, fun l x => GoT.encL l x.Sections ++ (GoT.encL l x.Switches ++ (GoT.encL l x.Ways ++ (GoT.encL l x.Bars ++ (GoT.encL l x.Hold)))), fun x => by simp only [List.length_append, GoT.len]; rfl, fun x => by simp only [cleanL_append, GoT.clean]; rfl, fun x => by simp only [List.all_append, GoT.cell]; rfl⟩
instance : GoM Plan := GoM.via (fun x => (x.Sections, x.Switches, x.Ways, x.Bars, x.Hold) : Plan → Int × (List Int) × (List Way) × (List (List Bool)) × Int) rfl fun _ _ => rfl
theorem foc_Plan_Switches : Foc Plan (List Int) (fun x => x.Switches) (fun x y => { x with Switches := y }) 1 := Foc.via (α := Plan) (f := (fun x => (x.Sections, x.Switches, x.Ways, x.Bars, x.Hold) : Plan → Int × (List Int) × (List Way) × (List (List Bool)) × Int)) (hz := rfl) (he := fun _ _ => rfl) (Foc.comp Foc.snd (Foc.fst)) fun _ _ => rfl
theorem foc_Plan_Ways : Foc Plan (List Way) (fun x => x.Ways) (fun x y => { x with Ways := y }) 2 := Foc.via (α := Plan) (f := (fun x => (x.Sections, x.Switches, x.Ways, x.Bars, x.Hold) : Plan → Int × (List Int) × (List Way) × (List (List Bool)) × Int)) (hz := rfl) (he := fun _ _ => rfl) (Foc.comp Foc.snd (Foc.comp Foc.snd (Foc.fst))) fun _ _ => rfl
theorem foc_Plan_Bars : Foc Plan (List (List Bool)) (fun x => x.Bars) (fun x y => { x with Bars := y }) 3 := Foc.via (α := Plan) (f := (fun x => (x.Sections, x.Switches, x.Ways, x.Bars, x.Hold) : Plan → Int × (List Int) × (List Way) × (List (List Bool)) × Int)) (hz := rfl) (he := fun _ _ => rfl) (Foc.comp Foc.snd (Foc.comp Foc.snd (Foc.comp Foc.snd (Foc.fst)))) fun _ _ => rfl
theorem th_Plan {H : Heap} {d n : Nat} {rs rs1 : List Res} {cs : List V} {x : Plan} (h : ThV n H d rs cs (x.Sections, x.Switches, x.Ways, x.Bars, x.Hold) rs1) : ThV n H d rs cs x rs1 := h
theorem ls_Plan {H G : Heap} {rs : List Res} {S F : List Nat} {x : Plan} {cs : List V} {j : Nat} (hO : Owns H G rs) (hj : rs[j]? = some (Tree S F x cs)) (lv n : Nat) (hn : Nat.ble (GoM.dep Plan) n = true := by rfl) : ∃ M, lendV lv G (n + 1) (.agg cs) = some (.agg [.int .i64 x.Sections, .lit lv x.Switches.length ((flatL 0) x.Switches), .lit lv x.Ways.length (flatL lv x.Ways), .lit lv x.Bars.length (flatL lv x.Bars), .int .i64 x.Hold], M) := by
  have h := ld_trS hO hj lv n hn
  have e : GoT.encL lv x = [.int .i64 x.Sections, .lit lv x.Switches.length ((flatL 0) x.Switches), .lit lv x.Ways.length (flatL lv x.Ways), .lit lv x.Bars.length (flatL lv x.Bars), .int .i64 x.Hold] := by
    show ([.int .i64 x.Sections, .lit lv x.Switches.length (flatL lv x.Switches), .lit lv x.Ways.length (flatL lv x.Ways), .lit lv x.Bars.length (flatL lv x.Bars), .int .i64 x.Hold] : List V) = _
    simp only [flat_lv]
  rwa [e] at h
structure Point where
  Want : Int
  Lies : Int
instance : GoT Point := ⟨2, by decide, fun l x => GoT.encL l x.Want ++ (GoT.encL l x.Lies), fun x => by simp only [List.length_append, GoT.len]; rfl, fun x => by simp only [cleanL_append, GoT.clean]; rfl, fun x => by simp only [List.all_append, GoT.cell]; rfl⟩
instance : GoM Point := GoM.via (fun x => (x.Want, x.Lies) : Point → Int × Int) rfl fun _ _ => rfl
instance : GoFl Point := ⟨fun G x => GoFl.fl (α := Int × Int) G (x.Want, x.Lies), fun l x => GoFl.lev (α := Int × Int) l (x.Want, x.Lies), GoFl.pos (α := Int × Int)⟩
theorem foc_Point_Want : Foc Point Int (fun x => x.Want) (fun x y => { x with Want := y }) 0 := Foc.via (α := Point) (f := (fun x => (x.Want, x.Lies) : Point → Int × Int)) (hz := rfl) (he := fun _ _ => rfl) (Foc.fst) fun _ _ => rfl
theorem foc_Point_Lies : Foc Point Int (fun x => x.Lies) (fun x y => { x with Lies := y }) 1 := Foc.via (α := Point) (f := (fun x => (x.Want, x.Lies) : Point → Int × Int)) (hz := rfl) (he := fun _ _ => rfl) (Foc.snd) fun _ _ => rfl
structure Held where
  State : Int
  Gone : Int
  Been : List Bool
  Shown : Bool
  Timer : Int
instance : GoT Held := ⟨5, by decide, fun l x => GoT.encL l x.State ++ (GoT.encL l x.Gone ++ (GoT.encL l x.Been ++ (GoT.encL l x.Shown ++ (GoT.encL l x.Timer)))), fun x => by simp only [List.length_append, GoT.len]; rfl, fun x => by simp only [cleanL_append, GoT.clean]; rfl, fun x => by simp only [List.all_append, GoT.cell]; rfl⟩
instance : GoM Held := GoM.via (fun x => (x.State, x.Gone, x.Been, x.Shown, x.Timer) : Held → Int × Int × (List Bool) × Bool × Int) rfl fun _ _ => rfl
theorem foc_Held_State : Foc Held Int (fun x => x.State) (fun x y => { x with State := y }) 0 := Foc.via (α := Held) (f := (fun x => (x.State, x.Gone, x.Been, x.Shown, x.Timer) : Held → Int × Int × (List Bool) × Bool × Int)) (hz := rfl) (he := fun _ _ => rfl) (Foc.fst) fun _ _ => rfl
theorem foc_Held_Gone : Foc Held Int (fun x => x.Gone) (fun x y => { x with Gone := y }) 1 := Foc.via (α := Held) (f := (fun x => (x.State, x.Gone, x.Been, x.Shown, x.Timer) : Held → Int × Int × (List Bool) × Bool × Int)) (hz := rfl) (he := fun _ _ => rfl) (Foc.comp Foc.snd (Foc.fst)) fun _ _ => rfl
theorem foc_Held_Been : Foc Held (List Bool) (fun x => x.Been) (fun x y => { x with Been := y }) 2 := Foc.via (α := Held) (f := (fun x => (x.State, x.Gone, x.Been, x.Shown, x.Timer) : Held → Int × Int × (List Bool) × Bool × Int)) (hz := rfl) (he := fun _ _ => rfl) (Foc.comp Foc.snd (Foc.comp Foc.snd (Foc.fst))) fun _ _ => rfl
theorem foc_Held_Shown : Foc Held Bool (fun x => x.Shown) (fun x y => { x with Shown := y }) 3 := Foc.via (α := Held) (f := (fun x => (x.State, x.Gone, x.Been, x.Shown, x.Timer) : Held → Int × Int × (List Bool) × Bool × Int)) (hz := rfl) (he := fun _ _ => rfl) (Foc.comp Foc.snd (Foc.comp Foc.snd (Foc.comp Foc.snd (Foc.fst)))) fun _ _ => rfl
theorem foc_Held_Timer : Foc Held Int (fun x => x.Timer) (fun x y => { x with Timer := y }) 4 := Foc.via (α := Held) (f := (fun x => (x.State, x.Gone, x.Been, x.Shown, x.Timer) : Held → Int × Int × (List Bool) × Bool × Int)) (hz := rfl) (he := fun _ _ => rfl) (Foc.comp Foc.snd (Foc.comp Foc.snd (Foc.comp Foc.snd (Foc.snd)))) fun _ _ => rfl
theorem th_Held {H : Heap} {d n : Nat} {rs rs1 : List Res} {cs : List V} {x : Held} (h : ThV n H d rs cs (x.State, x.Gone, x.Been, x.Shown, x.Timer) rs1) : ThV n H d rs cs x rs1 := h
theorem ls_Held {H G : Heap} {rs : List Res} {S F : List Nat} {x : Held} {cs : List V} {j : Nat} (hO : Owns H G rs) (hj : rs[j]? = some (Tree S F x cs)) (lv n : Nat) (hn : Nat.ble (GoM.dep Held) n = true := by rfl) : ∃ M, lendV lv G (n + 1) (.agg cs) = some (.agg [.int .i64 x.State, .int .i64 x.Gone, .lit lv x.Been.length ((flatL 0) x.Been), .bool x.Shown, .int .i64 x.Timer], M) := by
  have h := ld_trS hO hj lv n hn
  have e : GoT.encL lv x = [.int .i64 x.State, .int .i64 x.Gone, .lit lv x.Been.length ((flatL 0) x.Been), .bool x.Shown, .int .i64 x.Timer] := by
    show ([.int .i64 x.State, .int .i64 x.Gone, .lit lv x.Been.length (flatL lv x.Been), .bool x.Shown, .int .i64 x.Timer] : List V) = _
    simp only [flat_lv]
  rwa [e] at h
structure Frame where
  Ok : Bool
  Occ : List Bool
  Points : List Point
  Ways : List Held
instance : GoT Frame := ⟨4, by decide, fun l x => GoT.encL l x.Ok ++ (GoT.encL l x.Occ ++ (GoT.encL l x.Points ++ (GoT.encL l x.Ways))), fun x => by simp only [List.length_append, GoT.len]; rfl, fun x => by simp only [cleanL_append, GoT.clean]; rfl, fun x => by simp only [List.all_append, GoT.cell]; rfl⟩
instance : GoM Frame := GoM.via (fun x => (x.Ok, x.Occ, x.Points, x.Ways) : Frame → Bool × (List Bool) × (List Point) × (List Held)) rfl fun _ _ => rfl
theorem foc_Frame_Occ : Foc Frame (List Bool) (fun x => x.Occ) (fun x y => { x with Occ := y }) 1 := Foc.via (α := Frame) (f := (fun x => (x.Ok, x.Occ, x.Points, x.Ways) : Frame → Bool × (List Bool) × (List Point) × (List Held))) (hz := rfl) (he := fun _ _ => rfl) (Foc.comp Foc.snd (Foc.fst)) fun _ _ => rfl
theorem foc_Frame_Points : Foc Frame (List Point) (fun x => x.Points) (fun x y => { x with Points := y }) 2 := Foc.via (α := Frame) (f := (fun x => (x.Ok, x.Occ, x.Points, x.Ways) : Frame → Bool × (List Bool) × (List Point) × (List Held))) (hz := rfl) (he := fun _ _ => rfl) (Foc.comp Foc.snd (Foc.comp Foc.snd (Foc.fst))) fun _ _ => rfl
theorem foc_Frame_Ways : Foc Frame (List Held) (fun x => x.Ways) (fun x y => { x with Ways := y }) 3 := Foc.via (α := Frame) (f := (fun x => (x.Ok, x.Occ, x.Points, x.Ways) : Frame → Bool × (List Bool) × (List Point) × (List Held))) (hz := rfl) (he := fun _ _ => rfl) (Foc.comp Foc.snd (Foc.comp Foc.snd (Foc.snd))) fun _ _ => rfl
theorem th_Frame {H : Heap} {d n : Nat} {rs rs1 : List Res} {cs : List V} {x : Frame} (h : ThV n H d rs cs (x.Ok, x.Occ, x.Points, x.Ways) rs1) : ThV n H d rs cs x rs1 := h
theorem ls_Frame {H G : Heap} {rs : List Res} {S F : List Nat} {x : Frame} {cs : List V} {j : Nat} (hO : Owns H G rs) (hj : rs[j]? = some (Tree S F x cs)) (lv n : Nat) (hn : Nat.ble (GoM.dep Frame) n = true := by rfl) : ∃ M, lendV lv G (n + 1) (.agg cs) = some (.agg [.bool x.Ok, .lit lv x.Occ.length ((flatL 0) x.Occ), .lit lv x.Points.length ((flatL 0) x.Points), .lit lv x.Ways.length (flatL lv x.Ways)], M) := by
  have h := ld_trS hO hj lv n hn
  have e : GoT.encL lv x = [.bool x.Ok, .lit lv x.Occ.length ((flatL 0) x.Occ), .lit lv x.Points.length ((flatL 0) x.Points), .lit lv x.Ways.length (flatL lv x.Ways)] := by
    show ([.bool x.Ok, .lit lv x.Occ.length (flatL lv x.Occ), .lit lv x.Points.length (flatL lv x.Points), .lit lv x.Ways.length (flatL lv x.Ways)] : List V) = _
    simp only [flat_lv]
  rwa [e] at h
structure Fault where
  Code : Int
  At : Int
instance : GoT Fault := ⟨2, by decide, fun l x => GoT.encL l x.Code ++ (GoT.encL l x.At), fun x => by simp only [List.length_append, GoT.len]; rfl, fun x => by simp only [cleanL_append, GoT.clean]; rfl, fun x => by simp only [List.all_append, GoT.cell]; rfl⟩
instance : GoM Fault := GoM.via (fun x => (x.Code, x.At) : Fault → Int × Int) rfl fun _ _ => rfl
instance : GoFl Fault := ⟨fun G x => GoFl.fl (α := Int × Int) G (x.Code, x.At), fun l x => GoFl.lev (α := Int × Int) l (x.Code, x.At), GoFl.pos (α := Int × Int)⟩
theorem tZ74 : szOf Try.prog 74 = some 5 := by rfl
theorem tA74 : aggT Try.prog 74 = some true := by rfl
theorem tF74_1 : fieldOff Try.prog 74 1 = some 1 := by rfl
theorem tA26 : aggT Try.prog 26 = some false := by rfl
theorem tS26 : strT Try.prog 26 = some false := by rfl
theorem tF74_2 : fieldOff Try.prog 74 2 = some 2 := by rfl
theorem tA72 : aggT Try.prog 72 = some false := by rfl
theorem tS72 : strT Try.prog 72 = some false := by rfl
theorem tE72 : elemT Try.prog 72 = some 304 := by rfl
theorem tZ304 : szOf Try.prog 304 = some 5 := by rfl
theorem tA304 : aggT Try.prog 304 = some true := by rfl
theorem tF304_0 : fieldOff Try.prog 304 0 = some 0 := by rfl
theorem tF304_1 : fieldOff Try.prog 304 1 = some 1 := by rfl
theorem tA302 : aggT Try.prog 302 = some false := by rfl
theorem tS302 : strT Try.prog 302 = some false := by rfl
theorem tF304_2 : fieldOff Try.prog 304 2 = some 2 := by rfl
theorem tF304_3 : fieldOff Try.prog 304 3 = some 3 := by rfl
theorem tF304_4 : fieldOff Try.prog 304 4 = some 4 := by rfl
theorem tF74_3 : fieldOff Try.prog 74 3 = some 3 := by rfl
theorem tA45 : aggT Try.prog 45 = some false := by rfl
theorem tS45 : strT Try.prog 45 = some false := by rfl
theorem tE45 : elemT Try.prog 45 = some 38 := by rfl
theorem tZ38 : szOf Try.prog 38 = some 1 := by rfl
theorem tA38 : aggT Try.prog 38 = some false := by rfl
theorem tS38 : strT Try.prog 38 = some false := by rfl
theorem tZ81 : szOf Try.prog 81 = some 5 := by rfl
theorem t081 : zeroOf Try.prog 81 = some [.int .i64 0, (.tl 0 []), (.tl 0 []), (.tl 0 []), .int .i64 0] := by rfl
theorem tF74_0 : fieldOff Try.prog 74 0 = some 0 := by rfl
theorem tA3 : aggT Try.prog 3 = some false := by rfl
theorem tF81_0 : fieldOff Try.prog 81 0 = some 0 := by rfl
theorem tZ3 : szOf Try.prog 3 = some 1 := by rfl
theorem tE26 : elemT Try.prog 26 = some 3 := by rfl
theorem tB3 : bytesOf Try.prog 3 = some 8 := by rfl
theorem t03 : zeroOf Try.prog 3 = some [.int .i64 0] := by rfl
theorem tF81_1 : fieldOff Try.prog 81 1 = some 1 := by rfl
theorem tZ26 : szOf Try.prog 26 = some 1 := by rfl
theorem tE79 : elemT Try.prog 79 = some 218 := by rfl
theorem tZ218 : szOf Try.prog 218 = some 5 := by rfl
theorem tB218 : bytesOf Try.prog 218 = some 120 := by rfl
theorem t0218 : zeroOf Try.prog 218 = some [(.tl 0 []), (.tl 0 []), (.tl 0 []), (.tl 0 []), (.tl 0 [])] := by rfl
theorem tF218_0 : fieldOff Try.prog 218 0 = some 0 := by rfl
theorem tE216 : elemT Try.prog 216 = some 307 := by rfl
theorem tZ307 : szOf Try.prog 307 = some 2 := by rfl
theorem tB307 : bytesOf Try.prog 307 = some 16 := by rfl
theorem t0307 : zeroOf Try.prog 307 = some [.int .i64 0, .int .i64 0] := by rfl
theorem tE302 : elemT Try.prog 302 = some 390 := by rfl
theorem tZ390 : szOf Try.prog 390 = some 2 := by rfl
theorem tA390 : aggT Try.prog 390 = some true := by rfl
theorem tF390_0 : fieldOff Try.prog 390 0 = some 0 := by rfl
theorem tF307_0 : fieldOff Try.prog 307 0 = some 0 := by rfl
theorem tF390_1 : fieldOff Try.prog 390 1 = some 1 := by rfl
theorem tF307_1 : fieldOff Try.prog 307 1 = some 1 := by rfl
theorem tA307 : aggT Try.prog 307 = some true := by rfl
theorem tF218_1 : fieldOff Try.prog 218 1 = some 1 := by rfl
theorem tZ216 : szOf Try.prog 216 = some 1 := by rfl
theorem tF218_2 : fieldOff Try.prog 218 2 = some 2 := by rfl
theorem tF218_3 : fieldOff Try.prog 218 3 = some 3 := by rfl
theorem tF218_4 : fieldOff Try.prog 218 4 = some 4 := by rfl
theorem tA218 : aggT Try.prog 218 = some true := by rfl
theorem tF81_2 : fieldOff Try.prog 81 2 = some 2 := by rfl
theorem tZ79 : szOf Try.prog 79 = some 1 := by rfl
theorem tB38 : bytesOf Try.prog 38 = some 24 := by rfl
theorem t038 : zeroOf Try.prog 38 = some [(.tl 0 [])] := by rfl
theorem tE38 : elemT Try.prog 38 = some 4 := by rfl
theorem tZ4 : szOf Try.prog 4 = some 1 := by rfl
theorem tB4 : bytesOf Try.prog 4 = some 1 := by rfl
theorem t04 : zeroOf Try.prog 4 = some [.bool false] := by rfl
theorem tA4 : aggT Try.prog 4 = some false := by rfl
theorem tF81_3 : fieldOff Try.prog 81 3 = some 3 := by rfl
theorem tZ45 : szOf Try.prog 45 = some 1 := by rfl
theorem tF74_4 : fieldOff Try.prog 74 4 = some 4 := by rfl
theorem tF81_4 : fieldOff Try.prog 81 4 = some 4 := by rfl
theorem tA81 : aggT Try.prog 81 = some true := by rfl
theorem tZ148 : szOf Try.prog 148 = some 4 := by rfl
theorem t0148 : zeroOf Try.prog 148 = some [.bool false, (.tl 0 []), (.tl 0 []), (.tl 0 [])] := by rfl
theorem tZ77 : szOf Try.prog 77 = some 2 := by rfl
theorem t077 : zeroOf Try.prog 77 = some [.int .i64 0, .int .i64 0] := by rfl
theorem tA79 : aggT Try.prog 79 = some false := by rfl
theorem tS79 : strT Try.prog 79 = some false := by rfl
theorem tP77 : placesK Try.prog 77 = some [(0, 1), (1, 1)] := by rfl
theorem tA77 : aggT Try.prog 77 = some true := by rfl
theorem tA216 : aggT Try.prog 216 = some false := by rfl
theorem tS216 : strT Try.prog 216 = some false := by rfl
theorem tF77_0 : fieldOff Try.prog 77 0 = some 0 := by rfl
theorem tP148 : placesK Try.prog 148 = some [(0, 1), (1, 1), (2, 1), (3, 1)] := by rfl
theorem tA148 : aggT Try.prog 148 = some true := by rfl
theorem tF148_2 : fieldOff Try.prog 148 2 = some 2 := by rfl
theorem tA145 : aggT Try.prog 145 = some false := by rfl
theorem tP245 : placesK Try.prog 245 = some [(0, 1), (1, 1)] := by rfl
theorem t0245 : zeroOf Try.prog 245 = some [.int .i64 0, .int .i64 0] := by rfl
theorem tE145 : elemT Try.prog 145 = some 245 := by rfl
theorem tZ245 : szOf Try.prog 245 = some 2 := by rfl
theorem tB245 : bytesOf Try.prog 245 = some 16 := by rfl
theorem tZ145 : szOf Try.prog 145 = some 1 := by rfl
theorem tF148_3 : fieldOff Try.prog 148 3 = some 3 := by rfl
theorem tA146 : aggT Try.prog 146 = some false := by rfl
theorem tP247 : placesK Try.prog 247 = some [(0, 1), (1, 1), (2, 1), (3, 1), (4, 1)] := by rfl
theorem t0247 : zeroOf Try.prog 247 = some [.int .i64 0, .int .i64 0, (.tl 0 []), .bool false, .int .i64 0] := by rfl
theorem tE146 : elemT Try.prog 146 = some 247 := by rfl
theorem tZ247 : szOf Try.prog 247 = some 5 := by rfl
theorem tB247 : bytesOf Try.prog 247 = some 56 := by rfl
theorem tZ146 : szOf Try.prog 146 = some 1 := by rfl
theorem tC271 : Try.f271.body.bind isClone = some 216 := by rfl
theorem tM309 : mapK Try.prog 309 = some (.one .i, 4) := by decide +kernel
theorem tY4 : zero1 Try.prog 4 = some (GoP.pv (false : Bool)) := by rfl
theorem tG77 : flatT Try.prog 77 = some [.i, .i] := by decide +kernel
theorem tA247 : aggT Try.prog 247 = some true := by rfl
theorem tF148_0 : fieldOff Try.prog 148 0 = some 0 := by rfl
theorem tF148_1 : fieldOff Try.prog 148 1 = some 1 := by rfl
theorem tS145 : strT Try.prog 145 = some false := by rfl
theorem tA245 : aggT Try.prog 245 = some true := by rfl
theorem tF245_0 : fieldOff Try.prog 245 0 = some 0 := by rfl
theorem tF245_1 : fieldOff Try.prog 245 1 = some 1 := by rfl
theorem tS146 : strT Try.prog 146 = some false := by rfl
theorem tF247_0 : fieldOff Try.prog 247 0 = some 0 := by rfl
theorem tF247_1 : fieldOff Try.prog 247 1 = some 1 := by rfl
theorem tF247_2 : fieldOff Try.prog 247 2 = some 2 := by rfl
theorem tF247_3 : fieldOff Try.prog 247 3 = some 3 := by rfl
theorem tF247_4 : fieldOff Try.prog 247 4 = some 4 := by rfl
/-- laws.szIntS -/
def f138 (aA0 : List Int) (aLeft1 : Int) : Option Int :=
  (bif decide ((w64 (aLeft1 - (aA0.length : Int))) < (0:Int)) then some (-1:Int) else some (w64 (aLeft1 - (aA0.length : Int))))
theorem f138_run {aA0 : List Int} {aLeft1 : Int} {r : Int} {l1 : Nat} {H : Heap} {lk : Lk} (hk : f138 aA0 aLeft1 = some r) (hlk : 0 < lk.length := by simp) : runL Try.prog hh 138 [.lit l1 aA0.length ((flatL 0) aA0), .int .i64 aLeft1] H lk = some (.int .i64 r, H) := by
  refine run_start Try.func138 rfl Try.ntmps138 Try.results138 rfl rfl fun hO => ?_
  unfold f138 at hk
  refine wpL_sq (wpL_rg ?_)
  refine pA (.int _ _) ?_
  refine pE (gn (wpL_sq (wpL_rg ?_)))
  refine pM (.int _ _) ?_
  refine pM (.lit _ _ _) ?_
  refine pLen tS26 ?_
  refine pBi ?_
  refine pA (.int _ _) ?_
  refine pE (gn (wpL_sq (wpL_sq (wpL_rg ?_))))
  refine pM (.int _ _) ?_
  refine pBi ?_
  refine pE (gn ?_)
  refine wpL_cd (b := decide ((w64 (aLeft1 - (aA0.length : Int))) < (0:Int))) (fun hb => ?_) (fun hb => ?_)
  · replace hk := ct hb hk
    refine wpL_sq (wpL_rg ?_)
    refine pA (.int _ _) ?_
    refine pE (gn (wpL_rt (gr ?_)))
    replace hk := Option.some.inj hk; subst hk; exact fin0 hO
  · replace hk := cf hb hk
    refine wpL_sk (gn (wpL_sq (wpL_rg ?_)))
    refine pM (.int _ _) ?_
    refine pA (.int _ _) ?_
    refine pE (gn (wpL_rt ?_))
    replace hk := Option.some.inj hk; subst hk; exact fin0 hO
/-- laws.szTurnS -/
def f324 (aA0 : List Turn) (aLeft1 : Int) : Option Int :=
  (bif decide ((w64 (aLeft1 - (aA0.length : Int))) < (0:Int)) then some (-1:Int) else some (w64 (aLeft1 - (aA0.length : Int))))
theorem f324_run {aA0 : List Turn} {aLeft1 : Int} {r : Int} {l1 : Nat} {H : Heap} {lk : Lk} (hk : f324 aA0 aLeft1 = some r) (hlk : 0 < lk.length := by simp) : runL Try.prog hh 324 [.lit l1 aA0.length ((flatL 0) aA0), .int .i64 aLeft1] H lk = some (.int .i64 r, H) := by
  refine run_start Try.func324 rfl Try.ntmps324 Try.results324 rfl rfl fun hO => ?_
  unfold f324 at hk
  refine wpL_sq (wpL_rg ?_)
  refine pA (.int _ _) ?_
  refine pE (gn (wpL_sq (wpL_rg ?_)))
  refine pM (.int _ _) ?_
  refine pM (.lit _ _ _) ?_
  refine pLen tS302 ?_
  refine pBi ?_
  refine pA (.int _ _) ?_
  refine pE (gn (wpL_sq (wpL_sq (wpL_rg ?_))))
  refine pM (.int _ _) ?_
  refine pBi ?_
  refine pE (gn ?_)
  refine wpL_cd (b := decide ((w64 (aLeft1 - (aA0.length : Int))) < (0:Int))) (fun hb => ?_) (fun hb => ?_)
  · replace hk := ct hb hk
    refine wpL_sq (wpL_rg ?_)
    refine pA (.int _ _) ?_
    refine pE (gn (wpL_rt (gr ?_)))
    replace hk := Option.some.inj hk; subst hk; exact fin0 hO
  · replace hk := cf hb hk
    refine wpL_sk (gn (wpL_sq (wpL_rg ?_)))
    refine pM (.int _ _) ?_
    refine pA (.int _ _) ?_
    refine pE (gn (wpL_rt ?_))
    replace hk := Option.some.inj hk; subst hk; exact fin0 hO
/-- laws.szWay -/
def f266 (aA0 : Way) (aLeft1 : Int) : Option Int :=
  ((f138 aA0.Sections aLeft1).bind fun v2 => (bif decide (v2 < (0:Int)) then some (-1:Int) else ((f324 aA0.Lies v2).bind fun v3 => (bif decide (v3 < (0:Int)) then some (-1:Int) else ((f324 aA0.Flanks v3).bind fun v4 => (bif decide (v4 < (0:Int)) then some (-1:Int) else ((f138 aA0.Over v4).bind fun v5 => (bif decide (v5 < (0:Int)) then some (-1:Int) else ((f138 aA0.Near v5).bind fun v6 => (bif decide (v6 < (0:Int)) then some (-1:Int) else some v6))))))))))
theorem f266_run {aA0 : Way} {aLeft1 : Int} {r : Int} {l1 l2 l3 l4 l5 : Nat} {H : Heap} {lk : Lk} (hk : f266 aA0 aLeft1 = some r) (hlk : 0 < lk.length := by simp) : runL Try.prog hh 266 [.agg [.lit l1 aA0.Sections.length ((flatL 0) aA0.Sections), .lit l2 aA0.Lies.length ((flatL 0) aA0.Lies), .lit l3 aA0.Flanks.length ((flatL 0) aA0.Flanks), .lit l4 aA0.Over.length ((flatL 0) aA0.Over), .lit l5 aA0.Near.length ((flatL 0) aA0.Near)], .int .i64 aLeft1] H lk = some (.int .i64 r, H) := by
  refine run_start Try.func266 rfl Try.ntmps266 Try.results266 rfl rfl fun hO => ?_
  unfold f266 at hk
  refine wpL_sq (wpL_rg ?_)
  refine pBox (cs := [_, _, _, _, _]) hO tZ304 (fun b1 G hO => ?_)
  refine pA (.int _ _) ?_
  refine pE (gn (wpL_sq (wpL_rg ?_)))
  refine pF tF304_0 ?_
  refine pLo hO 0 (.lit _ _ _) tA26 ?_
  refine pM (.int _ _) ?_
  obtain ⟨v2, hv2, hk⟩ := bs hk
  refine pCall (fun _ => f138_run hv2) ?_
  refine pA (.int _ _) ?_
  refine pE (gn (wpL_sq (wpL_sq (wpL_rg ?_))))
  refine pM (.int _ _) ?_
  refine pBi ?_
  refine pE (gn ?_)
  refine wpL_cd (b := decide (v2 < (0:Int))) (fun hb => ?_) (fun hb => ?_)
  · replace hk := ct hb hk
    refine wpL_sq (wpL_rg ?_)
    refine pA (.int _ _) ?_
    refine pE (gn (wpL_rt (gr ?_)))
    replace hk := Option.some.inj hk; subst hk; exact fin0 hO
  · replace hk := cf hb hk
    refine wpL_sk (gn (wpL_sq (wpL_rg ?_)))
    refine pF tF304_1 ?_
    refine pLo hO 0 (.lit _ _ _) tA302 ?_
    refine pM (.int _ _) ?_
    obtain ⟨v3, hv3, hk⟩ := bs hk
    refine pCall (fun _ => f324_run hv3) ?_
    refine pA (.int _ _) ?_
    refine pE (gn (wpL_sq (wpL_sq (wpL_rg ?_))))
    refine pM (.int _ _) ?_
    refine pBi ?_
    refine pE (gn ?_)
    refine wpL_cd (b := decide (v3 < (0:Int))) (fun hb => ?_) (fun hb => ?_)
    · replace hk := ct hb hk
      refine wpL_sq (wpL_rg ?_)
      refine pA (.int _ _) ?_
      refine pE (gn (wpL_rt (gr ?_)))
      replace hk := Option.some.inj hk; subst hk; exact fin0 hO
    · replace hk := cf hb hk
      refine wpL_sk (gn (wpL_sq (wpL_rg ?_)))
      refine pF tF304_2 ?_
      refine pLo hO 0 (.lit _ _ _) tA302 ?_
      refine pM (.int _ _) ?_
      obtain ⟨v4, hv4, hk⟩ := bs hk
      refine pCall (fun _ => f324_run hv4) ?_
      refine pA (.int _ _) ?_
      refine pE (gn (wpL_sq (wpL_sq (wpL_rg ?_))))
      refine pM (.int _ _) ?_
      refine pBi ?_
      refine pE (gn ?_)
      refine wpL_cd (b := decide (v4 < (0:Int))) (fun hb => ?_) (fun hb => ?_)
      · replace hk := ct hb hk
        refine wpL_sq (wpL_rg ?_)
        refine pA (.int _ _) ?_
        refine pE (gn (wpL_rt (gr ?_)))
        replace hk := Option.some.inj hk; subst hk; exact fin0 hO
      · replace hk := cf hb hk
        refine wpL_sk (gn (wpL_sq (wpL_rg ?_)))
        refine pF tF304_3 ?_
        refine pLo hO 0 (.lit _ _ _) tA26 ?_
        refine pM (.int _ _) ?_
        obtain ⟨v5, hv5, hk⟩ := bs hk
        refine pCall (fun _ => f138_run hv5) ?_
        refine pA (.int _ _) ?_
        refine pE (gn (wpL_sq (wpL_sq (wpL_rg ?_))))
        refine pM (.int _ _) ?_
        refine pBi ?_
        refine pE (gn ?_)
        refine wpL_cd (b := decide (v5 < (0:Int))) (fun hb => ?_) (fun hb => ?_)
        · replace hk := ct hb hk
          refine wpL_sq (wpL_rg ?_)
          refine pA (.int _ _) ?_
          refine pE (gn (wpL_rt (gr ?_)))
          replace hk := Option.some.inj hk; subst hk; exact fin0 hO
        · replace hk := cf hb hk
          refine wpL_sk (gn (wpL_sq (wpL_rg ?_)))
          refine pF tF304_4 ?_
          refine pLo hO 0 (.lit _ _ _) tA26 ?_
          refine pM (.int _ _) ?_
          obtain ⟨v6, hv6, hk⟩ := bs hk
          refine pCall (fun _ => f138_run hv6) ?_
          refine pA (.int _ _) ?_
          refine pE (gn (wpL_sq (wpL_sq (wpL_rg ?_))))
          refine pM (.int _ _) ?_
          refine pBi ?_
          refine pE (gn ?_)
          refine wpL_cd (b := decide (v6 < (0:Int))) (fun hb => ?_) (fun hb => ?_)
          · replace hk := ct hb hk
            refine wpL_sq (wpL_rg ?_)
            refine pA (.int _ _) ?_
            refine pE (gn (wpL_rt (gr ?_)))
            replace hk := Option.some.inj hk; subst hk; exact fin0 hO
          · replace hk := cf hb hk
            refine wpL_sk (gn (wpL_sq (wpL_rg ?_)))
            refine pM (.int _ _) ?_
            refine pA (.int _ _) ?_
            refine pE (gn (wpL_rt ?_))
            replace hk := Option.some.inj hk; subst hk; exact fin0 hO
/-- laws.szWayS -/
def f166_L1 (aA0 : List Way) : (Int × Int) → Option ((Int × Int) ⊕ Int) := fun s =>
  (bif decide (s.2 < (aA0.length : Int)) then ((getI aA0 s.2).bind fun c3 => ((f266 c3 s.1).bind fun v4 => (bif decide (v4 < (0:Int)) then ((some (-1:Int)).map Sum.inr) else some (.inl (v4, w64 (s.2 + (1:Int))))))) else ((some s.1).map Sum.inr))
def f166 (aA0 : List Way) (aLeft1 : Int) : Option Int :=
  (bif decide ((w64 (aLeft1 - (aA0.length : Int))) < (0:Int)) then some (-1:Int) else (loopO (f166_L1 aA0) (w64 (aLeft1 - (aA0.length : Int)), (0:Int))))
theorem f166_run {aA0 : List Way} {aLeft1 : Int} {r : Int} {l1 m2 : Nat} {H : Heap} {lk : Lk} (hk : f166 aA0 aLeft1 = some r) (hlk : 0 < lk.length := by simp) : runL Try.prog hh 166 [.lit l1 aA0.length (flatL m2 aA0), .int .i64 aLeft1] H lk = some (.int .i64 r, H) := by
  refine run_start Try.func166 rfl Try.ntmps166 Try.results166 rfl rfl fun hO => ?_
  unfold f166 at hk
  refine wpL_sq (wpL_rg ?_)
  refine pA (.int _ _) ?_
  refine pE (gn (wpL_sq (wpL_rg ?_)))
  refine pM (.int _ _) ?_
  refine pM (.lit _ _ _) ?_
  refine pLen tS72 ?_
  refine pBi ?_
  refine pA (.int _ _) ?_
  refine pE (gn (wpL_sq (wpL_sq (wpL_rg ?_))))
  refine pM (.int _ _) ?_
  refine pBi ?_
  refine pE (gn ?_)
  refine wpL_cd (b := decide ((w64 (aLeft1 - (aA0.length : Int))) < (0:Int))) (fun hb => ?_) (fun hb => ?_)
  · replace hk := ct hb hk
    refine wpL_sq (wpL_rg ?_)
    refine pA (.int _ _) ?_
    refine pE (gn (wpL_rt (gr ?_)))
    replace hk := Option.some.inj hk; subst hk; exact fin0 hO
  · replace hk := cf hb hk
    refine wpL_sk (gn (wpL_sq (wpL_sq (wpL_rg ?_))))
    refine pA (.int _ _) ?_
    refine pE (gn (wpL_bl ?_))
    refine wpL_loopO (F := f166_L1 aA0) (fun s S' => ∃ (J : Nat → V) (G : Heap), Owns H G [] ∧ S' = ⟨hav [(0, .lit l1 aA0.length (flatL m2 aA0)), (1, .int .i64 s.1), (5, .int .i64 s.2)] J, G⟩) hk ⟨_, _, hO, St.hav _ ⟨rfl, rfl, rfl, trivial⟩⟩ ?_
    rintro ⟨x1, x2⟩ _ y1 ⟨J, G, hO, rfl⟩ hk hx1
    refine wpL_sq (wpL_sq (wpL_rg ?_))
    refine pM (.int _ _) ?_
    refine pM (.lit _ _ _) ?_
    refine pLen tS72 ?_
    refine pBi ?_
    refine pE (gn ?_)
    refine wpL_cd (b := decide (x2 < (aA0.length : Int))) (fun hb => ?_) (fun hb => ?_)
    · replace hk := ct hb hk
      refine wpL_sk (gn (wpL_sq (wpL_bl (wpL_sq (wpL_rg ?_)))))
      refine pM (.lit _ _ _) ?_
      refine pM (.int _ _) ?_
      obtain ⟨c3, hc3, hk⟩ := bs hk
      refine pX hc3 tE72 tZ304 ?_
      refine pLp (.agg [_, _, _, _, _]) (rd2 (lm := m2) (off := 0) hc3 tA304 tZ304) ?_
      refine pM (.int _ _) ?_
      obtain ⟨v4, hv4, hk⟩ := bs hk
      refine pCall (fun _ => f266_run hv4) ?_
      refine pA (.int _ _) ?_
      refine pE (gn (wpL_sq (wpL_rg ?_)))
      refine pM (.int _ _) ?_
      refine pBi ?_
      refine pE (gn ?_)
      refine wpL_cd (b := decide (v4 < (0:Int))) (fun hb => ?_) (fun hb => ?_)
      · replace hk := ct hb hk
        refine wpL_sq (wpL_rg ?_)
        refine pA (.int _ _) ?_
        refine pE (gn (wpL_rt (br (gr (gr (br (gr ?_)))))))
        replace hk := lx hx1 hk
        replace hk := Option.some.inj hk; subst hk; exact fin0 hO
      · replace hk := cf hb hk
        refine wpL_sk (bn (gn (wpL_rg ?_)))
        refine pM (.int _ _) ?_
        refine pBi ?_
        refine pA (.int _ _) ?_
        refine pE (gn ?_)
        cases hk; exact ⟨_, rfl, _, _, hO, St.hav _ ⟨rfl, rfl, rfl, trivial⟩⟩
    · replace hk := cf hb hk
      refine wpL_ex (ge (ge (be (gn ?_))))
      replace hk := lx hx1 hk
      refine wpL_sq (wpL_rg ?_)
      refine pM (.int _ _) ?_
      refine pA (.int _ _) ?_
      refine pE (gn (wpL_rt ?_))
      replace hk := Option.some.inj hk; subst hk; exact fin0 hO
/-- laws.szBoolS -/
def f139 (aA0 : List Bool) (aLeft1 : Int) : Option Int :=
  (bif decide ((w64 (aLeft1 - (aA0.length : Int))) < (0:Int)) then some (-1:Int) else some (w64 (aLeft1 - (aA0.length : Int))))
theorem f139_run {aA0 : List Bool} {aLeft1 : Int} {r : Int} {l1 : Nat} {H : Heap} {lk : Lk} (hk : f139 aA0 aLeft1 = some r) (hlk : 0 < lk.length := by simp) : runL Try.prog hh 139 [.lit l1 aA0.length ((flatL 0) aA0), .int .i64 aLeft1] H lk = some (.int .i64 r, H) := by
  refine run_start Try.func139 rfl Try.ntmps139 Try.results139 rfl rfl fun hO => ?_
  unfold f139 at hk
  refine wpL_sq (wpL_rg ?_)
  refine pA (.int _ _) ?_
  refine pE (gn (wpL_sq (wpL_rg ?_)))
  refine pM (.int _ _) ?_
  refine pM (.lit _ _ _) ?_
  refine pLen tS38 ?_
  refine pBi ?_
  refine pA (.int _ _) ?_
  refine pE (gn (wpL_sq (wpL_sq (wpL_rg ?_))))
  refine pM (.int _ _) ?_
  refine pBi ?_
  refine pE (gn ?_)
  refine wpL_cd (b := decide ((w64 (aLeft1 - (aA0.length : Int))) < (0:Int))) (fun hb => ?_) (fun hb => ?_)
  · replace hk := ct hb hk
    refine wpL_sq (wpL_rg ?_)
    refine pA (.int _ _) ?_
    refine pE (gn (wpL_rt (gr ?_)))
    replace hk := Option.some.inj hk; subst hk; exact fin0 hO
  · replace hk := cf hb hk
    refine wpL_sk (gn (wpL_sq (wpL_rg ?_)))
    refine pM (.int _ _) ?_
    refine pA (.int _ _) ?_
    refine pE (gn (wpL_rt ?_))
    replace hk := Option.some.inj hk; subst hk; exact fin0 hO
/-- laws.szBoolSS -/
def f140_L1 (aA0 : List (List Bool)) : (Int × Int) → Option ((Int × Int) ⊕ Int) := fun s =>
  (bif decide (s.2 < (aA0.length : Int)) then ((getI aA0 s.2).bind fun c3 => ((f139 c3 s.1).bind fun v4 => (bif decide (v4 < (0:Int)) then ((some (-1:Int)).map Sum.inr) else some (.inl (v4, w64 (s.2 + (1:Int))))))) else ((some s.1).map Sum.inr))
def f140 (aA0 : List (List Bool)) (aLeft1 : Int) : Option Int :=
  (bif decide ((w64 (aLeft1 - (aA0.length : Int))) < (0:Int)) then some (-1:Int) else (loopO (f140_L1 aA0) (w64 (aLeft1 - (aA0.length : Int)), (0:Int))))
theorem f140_run {aA0 : List (List Bool)} {aLeft1 : Int} {r : Int} {l1 m2 : Nat} {H : Heap} {lk : Lk} (hk : f140 aA0 aLeft1 = some r) (hlk : 0 < lk.length := by simp) : runL Try.prog hh 140 [.lit l1 aA0.length (flatL m2 aA0), .int .i64 aLeft1] H lk = some (.int .i64 r, H) := by
  refine run_start Try.func140 rfl Try.ntmps140 Try.results140 rfl rfl fun hO => ?_
  unfold f140 at hk
  refine wpL_sq (wpL_rg ?_)
  refine pA (.int _ _) ?_
  refine pE (gn (wpL_sq (wpL_rg ?_)))
  refine pM (.int _ _) ?_
  refine pM (.lit _ _ _) ?_
  refine pLen tS45 ?_
  refine pBi ?_
  refine pA (.int _ _) ?_
  refine pE (gn (wpL_sq (wpL_sq (wpL_rg ?_))))
  refine pM (.int _ _) ?_
  refine pBi ?_
  refine pE (gn ?_)
  refine wpL_cd (b := decide ((w64 (aLeft1 - (aA0.length : Int))) < (0:Int))) (fun hb => ?_) (fun hb => ?_)
  · replace hk := ct hb hk
    refine wpL_sq (wpL_rg ?_)
    refine pA (.int _ _) ?_
    refine pE (gn (wpL_rt (gr ?_)))
    replace hk := Option.some.inj hk; subst hk; exact fin0 hO
  · replace hk := cf hb hk
    refine wpL_sk (gn (wpL_sq (wpL_sq (wpL_rg ?_))))
    refine pA (.int _ _) ?_
    refine pE (gn (wpL_bl ?_))
    refine wpL_loopO (F := f140_L1 aA0) (fun s S' => ∃ (J : Nat → V) (G : Heap), Owns H G [] ∧ S' = ⟨hav [(0, .lit l1 aA0.length (flatL m2 aA0)), (1, .int .i64 s.1), (5, .int .i64 s.2)] J, G⟩) hk ⟨_, _, hO, St.hav _ ⟨rfl, rfl, rfl, trivial⟩⟩ ?_
    rintro ⟨x1, x2⟩ _ y1 ⟨J, G, hO, rfl⟩ hk hx1
    refine wpL_sq (wpL_sq (wpL_rg ?_))
    refine pM (.int _ _) ?_
    refine pM (.lit _ _ _) ?_
    refine pLen tS45 ?_
    refine pBi ?_
    refine pE (gn ?_)
    refine wpL_cd (b := decide (x2 < (aA0.length : Int))) (fun hb => ?_) (fun hb => ?_)
    · replace hk := ct hb hk
      refine wpL_sk (gn (wpL_sq (wpL_bl (wpL_sq (wpL_rg ?_)))))
      refine pM (.lit _ _ _) ?_
      refine pM (.int _ _) ?_
      obtain ⟨c3, hc3, hk⟩ := bs hk
      refine pX hc3 tE45 tZ38 ?_
      refine pLp (.lit _ _ _) (rd1 (lm := m2) (off := 0) hc3 tA38) ?_
      refine pM (.int _ _) ?_
      obtain ⟨v4, hv4, hk⟩ := bs hk
      refine pCall (fun _ => f139_run hv4) ?_
      refine pA (.int _ _) ?_
      refine pE (gn (wpL_sq (wpL_rg ?_)))
      refine pM (.int _ _) ?_
      refine pBi ?_
      refine pE (gn ?_)
      refine wpL_cd (b := decide (v4 < (0:Int))) (fun hb => ?_) (fun hb => ?_)
      · replace hk := ct hb hk
        refine wpL_sq (wpL_rg ?_)
        refine pA (.int _ _) ?_
        refine pE (gn (wpL_rt (br (gr (gr (br (gr ?_)))))))
        replace hk := lx hx1 hk
        replace hk := Option.some.inj hk; subst hk; exact fin0 hO
      · replace hk := cf hb hk
        refine wpL_sk (bn (gn (wpL_rg ?_)))
        refine pM (.int _ _) ?_
        refine pBi ?_
        refine pA (.int _ _) ?_
        refine pE (gn ?_)
        cases hk; exact ⟨_, rfl, _, _, hO, St.hav _ ⟨rfl, rfl, rfl, trivial⟩⟩
    · replace hk := cf hb hk
      refine wpL_ex (ge (ge (be (gn ?_))))
      replace hk := lx hx1 hk
      refine wpL_sq (wpL_rg ?_)
      refine pM (.int _ _) ?_
      refine pA (.int _ _) ?_
      refine pE (gn (wpL_rt ?_))
      replace hk := Option.some.inj hk; subst hk; exact fin0 hO
/-- laws.szPlan -/
def f51 (aA0 : Plan) (aLeft1 : Int) : Option Int :=
  ((f138 aA0.Switches aLeft1).bind fun v2 => (bif decide (v2 < (0:Int)) then some (-1:Int) else ((f166 aA0.Ways v2).bind fun v3 => (bif decide (v3 < (0:Int)) then some (-1:Int) else ((f140 aA0.Bars v3).bind fun v4 => (bif decide (v4 < (0:Int)) then some (-1:Int) else some v4))))))
theorem f51_run {aA0 : Plan} {aLeft1 : Int} {r : Int} {l1 l2 m3 l4 m5 : Nat} {H : Heap} {lk : Lk} (hk : f51 aA0 aLeft1 = some r) (hlk : 0 < lk.length := by simp) : runL Try.prog hh 51 [.agg [.int .i64 aA0.Sections, .lit l1 aA0.Switches.length ((flatL 0) aA0.Switches), .lit l2 aA0.Ways.length (flatL m3 aA0.Ways), .lit l4 aA0.Bars.length (flatL m5 aA0.Bars), .int .i64 aA0.Hold], .int .i64 aLeft1] H lk = some (.int .i64 r, H) := by
  refine run_start Try.func51 rfl Try.ntmps51 Try.results51 rfl rfl fun hO => ?_
  unfold f51 at hk
  refine wpL_sq (wpL_rg ?_)
  refine pBox (cs := [_, _, _, _, _]) hO tZ74 (fun b1 G hO => ?_)
  refine pA (.int _ _) ?_
  refine pE (gn (wpL_sq (wpL_rg ?_)))
  refine pF tF74_1 ?_
  refine pLo hO 0 (.lit _ _ _) tA26 ?_
  refine pM (.int _ _) ?_
  obtain ⟨v2, hv2, hk⟩ := bs hk
  refine pCall (fun _ => f138_run hv2) ?_
  refine pA (.int _ _) ?_
  refine pE (gn (wpL_sq (wpL_sq (wpL_rg ?_))))
  refine pM (.int _ _) ?_
  refine pBi ?_
  refine pE (gn ?_)
  refine wpL_cd (b := decide (v2 < (0:Int))) (fun hb => ?_) (fun hb => ?_)
  · replace hk := ct hb hk
    refine wpL_sq (wpL_rg ?_)
    refine pA (.int _ _) ?_
    refine pE (gn (wpL_rt (gr ?_)))
    replace hk := Option.some.inj hk; subst hk; exact fin0 hO
  · replace hk := cf hb hk
    refine wpL_sk (gn (wpL_sq (wpL_rg ?_)))
    refine pF tF74_2 ?_
    refine pLo hO 0 (.lit _ _ _) tA72 ?_
    refine pM (.int _ _) ?_
    obtain ⟨v3, hv3, hk⟩ := bs hk
    refine pCall (fun _ => f166_run hv3) ?_
    refine pA (.int _ _) ?_
    refine pE (gn (wpL_sq (wpL_sq (wpL_rg ?_))))
    refine pM (.int _ _) ?_
    refine pBi ?_
    refine pE (gn ?_)
    refine wpL_cd (b := decide (v3 < (0:Int))) (fun hb => ?_) (fun hb => ?_)
    · replace hk := ct hb hk
      refine wpL_sq (wpL_rg ?_)
      refine pA (.int _ _) ?_
      refine pE (gn (wpL_rt (gr ?_)))
      replace hk := Option.some.inj hk; subst hk; exact fin0 hO
    · replace hk := cf hb hk
      refine wpL_sk (gn (wpL_sq (wpL_rg ?_)))
      refine pF tF74_3 ?_
      refine pLo hO 0 (.lit _ _ _) tA45 ?_
      refine pM (.int _ _) ?_
      obtain ⟨v4, hv4, hk⟩ := bs hk
      refine pCall (fun _ => f140_run hv4) ?_
      refine pA (.int _ _) ?_
      refine pE (gn (wpL_sq (wpL_sq (wpL_rg ?_))))
      refine pM (.int _ _) ?_
      refine pBi ?_
      refine pE (gn ?_)
      refine wpL_cd (b := decide (v4 < (0:Int))) (fun hb => ?_) (fun hb => ?_)
      · replace hk := ct hb hk
        refine wpL_sq (wpL_rg ?_)
        refine pA (.int _ _) ?_
        refine pE (gn (wpL_rt (gr ?_)))
        replace hk := Option.some.inj hk; subst hk; exact fin0 hO
      · replace hk := cf hb hk
        refine wpL_sk (gn (wpL_sq (wpL_rg ?_)))
        refine pM (.int _ _) ?_
        refine pA (.int _ _) ?_
        refine pE (gn (wpL_rt ?_))
        replace hk := Option.some.inj hk; subst hk; exact fin0 hO
/-- laws.toIntS -/
def f97_L1 (aA0 : List Int) : ((List Int) × Int) → Option (((List Int) × Int) ⊕ (List Int)) := fun s =>
  (bif decide (s.2 < (aA0.length : Int)) then ((getI aA0 s.2).bind fun c5 => ((getI s.1 s.2).bind fun c6 => some (.inl (s.1.set s.2.toNat c5, w64 (s.2 + (1:Int)))))) else ((some s.1).map Sum.inr))
def f97 (aA0 : List Int) : Option (List Int) :=
  ((makeB 8 (aA0.length : Int)).bind fun m1 => (loopO (f97_L1 aA0) (List.replicate m1 (0 : Int), (0:Int))))
theorem f97_run {aA0 : List Int} {r : (List Int)} {l1 : Nat} {H : Heap} {lk : Lk} (hk : f97 aA0 = some r) (hlk : 0 < lk.length := by simp) : ∃ v H1, runL Try.prog hh 97 [.lit l1 aA0.length ((flatL 0) aA0)] H lk = some (v, H1) ∧ FreshL H r v H1 := by
  refine run_startR Try.func97 rfl Try.ntmps97 Try.results97 rfl rfl ?_
  have hO := Owns.nil H
  unfold f97 at hk
  refine wpL_sq (wpL_rg ?_)
  refine pA (.tl 0 []) ?_
  refine pE (gn (wpL_sq (wpL_rg ?_)))
  refine pM (.lit _ _ _) ?_
  refine pLen tS26 ?_
  obtain ⟨m1, hm1, hk⟩ := bs hk
  refine pMk hO hm1 (0 : Int) tE26 tZ3 tB3 t03 (fun b2 G hO => ?_)
  refine pA (.sl _ _ _) ?_
  refine pE (gn (wpL_sq (wpL_sq (wpL_rg ?_))))
  refine pA (.int _ _) ?_
  refine pE (gn (wpL_bl ?_))
  refine wpL_loopO (F := f97_L1 aA0) (fun s S' => ∃ (J : Nat → V) (G : Heap), s.1.length = m1 ∧ Owns H G [.blk b2 (.cells 1 ((flatL 0) s.1))] ∧ S' = ⟨hav [(0, .lit l1 aA0.length ((flatL 0) aA0)), (3, .sl b2 0 m1), (4, .int .i64 s.2)] J, G⟩) hk ⟨_, _, List.length_replicate, hO, St.hav _ ⟨rfl, rfl, rfl, trivial⟩⟩ ?_
  rintro ⟨x3, x4⟩ _ y1 ⟨J, G, hl3, hO, rfl⟩ hk hx1
  refine wpL_sq (wpL_sq (wpL_rg ?_))
  refine pM (.int _ _) ?_
  refine pM (.lit _ _ _) ?_
  refine pLen tS26 ?_
  refine pBi ?_
  refine pE (gn ?_)
  refine wpL_cd (b := decide (x4 < (aA0.length : Int))) (fun hb => ?_) (fun hb => ?_)
  · replace hk := ct hb hk
    refine wpL_sk (gn (wpL_sq (wpL_bl (wpL_rg ?_))))
    refine pM (.sl _ _ _) ?_
    refine pM (.int _ _) ?_
    refine pM (.lit _ _ _) ?_
    refine pM (.int _ _) ?_
    obtain ⟨c5, hc5, hk⟩ := bs hk
    refine pX hc5 tE26 tZ3 ?_
    refine pLp (.int _ _) (rd1 (lm := 0) (off := 0) hc5 tA3) ?_
    obtain ⟨c6, hc6, hk⟩ := bs hk
    refine pXm hl3 hc6 tE26 tZ3 ?_
    refine pSm hO 0 hc6 tZ3 rfl c5 (.int _ _) (fun G hO => ?_)
    refine pE (bn (gn (wpL_rg ?_)))
    refine pM (.int _ _) ?_
    refine pBi ?_
    refine pA (.int _ _) ?_
    refine pE (gn ?_)
    cases hk; exact ⟨_, rfl, _, _, (List.length_set.trans hl3), hO, St.hav _ ⟨rfl, rfl, rfl, trivial⟩⟩
  · replace hk := cf hb hk
    refine wpL_ex (ge (ge (be (gn ?_))))
    replace hk := lx hx1 hk
    refine wpL_sq (wpL_rg ?_)
    refine pM (.sl _ _ _) ?_
    refine pA (.sl _ _ _) ?_
    refine pE (gn (wpL_rt ?_))
    replace hk := Option.some.inj hk; subst hk; exact finThL hO (th_made (xs := x3) hl3 hlk 0) (resT (.sl _ _ _) resN)
/-- laws.toTurn -/
def f350 (aA0 : Turn) : Option Turn :=
  some aA0
theorem f350_run {aA0 : Turn} {r : Turn} {H : Heap} {lk : Lk} (hk : f350 aA0 = some r) (hlk : 0 < lk.length := by simp) : runL Try.prog hh 350 [.agg [.int .i64 aA0.Switch, .int .i64 aA0.Lie]] H lk = some (.agg [.int .i64 r.Switch, .int .i64 r.Lie], H) := by
  refine run_start Try.func350 rfl Try.ntmps350 Try.results350 rfl rfl fun hO => ?_
  unfold f350 at hk
  refine wpL_sq (wpL_rg ?_)
  refine pBox (cs := [_, _]) hO tZ390 (fun b1 G hO => ?_)
  refine pNew hO tZ307 t0307 (fun b2 G hO => ?_)
  refine pE (gn (wpL_sq (wpL_rg ?_)))
  refine pNew hO tZ307 t0307 (fun b3 G hO => ?_)
  refine pE (gn (wpL_sq (wpL_rg ?_)))
  refine pF tF390_0 ?_
  refine pLo hO 2 (.int _ _) tA3 ?_
  refine pF tF307_0 ?_
  refine pSt (xs := [_]) hO 0 tZ3 rfl (fun G hO => ?_)
  refine pE (gn (wpL_sq (wpL_rg ?_)))
  refine pF tF390_1 ?_
  refine pLo hO 2 (.int _ _) tA3 ?_
  refine pF tF307_1 ?_
  refine pSt (xs := [_]) hO 0 tZ3 rfl (fun G hO => ?_)
  refine pE (gn (wpL_sq (wpL_rg ?_)))
  refine pLs hO 0 [_, _] tA307 tZ307 ?_
  refine pSt (xs := [_, _]) hO 1 tZ307 rfl (fun G hO => ?_)
  refine pE (gn (wpL_rt ?_))
  replace hk := Option.some.inj hk; subst hk; exact finZ hO (fz_agg (n := 2) (fz_c (fz_int _ _) (fz_c (fz_int _ _) (fz_n)))) (resS hO 1 [_, _] tA307 tZ307 resN)
/-- laws.toTurnS -/
def f325_L1 (aA0 : List Turn) : ((List Turn) × Int) → Option (((List Turn) × Int) ⊕ (List Turn)) := fun s =>
  (bif decide (s.2 < (aA0.length : Int)) then ((getI aA0 s.2).bind fun c5 => ((f350 c5).bind fun v6 => ((getI s.1 s.2).bind fun c7 => some (.inl (s.1.set s.2.toNat v6, w64 (s.2 + (1:Int))))))) else ((some s.1).map Sum.inr))
def f325 (aA0 : List Turn) : Option (List Turn) :=
  ((makeB 16 (aA0.length : Int)).bind fun m1 => (loopO (f325_L1 aA0) (List.replicate m1 (⟨0, 0⟩ : Turn), (0:Int))))
theorem f325_run {aA0 : List Turn} {r : (List Turn)} {l1 : Nat} {H : Heap} {lk : Lk} (hk : f325 aA0 = some r) (hlk : 0 < lk.length := by simp) : ∃ v H1, runL Try.prog hh 325 [.lit l1 aA0.length ((flatL 0) aA0)] H lk = some (v, H1) ∧ FreshL H r v H1 := by
  refine run_startR Try.func325 rfl Try.ntmps325 Try.results325 rfl rfl ?_
  have hO := Owns.nil H
  unfold f325 at hk
  refine wpL_sq (wpL_rg ?_)
  refine pA (.tl 0 []) ?_
  refine pE (gn (wpL_sq (wpL_rg ?_)))
  refine pM (.lit _ _ _) ?_
  refine pLen tS302 ?_
  obtain ⟨m1, hm1, hk⟩ := bs hk
  refine pMk hO hm1 (⟨0, 0⟩ : Turn) tE216 tZ307 tB307 t0307 (fun b2 G hO => ?_)
  refine pA (.sl _ _ _) ?_
  refine pE (gn (wpL_sq (wpL_sq (wpL_rg ?_))))
  refine pA (.int _ _) ?_
  refine pE (gn (wpL_bl ?_))
  refine wpL_loopO (F := f325_L1 aA0) (fun s S' => ∃ (J : Nat → V) (G : Heap), s.1.length = m1 ∧ Owns H G [.blk b2 (.cells 2 ((flatL 0) s.1))] ∧ S' = ⟨hav [(0, .lit l1 aA0.length ((flatL 0) aA0)), (3, .sl b2 0 m1), (4, .int .i64 s.2)] J, G⟩) hk ⟨_, _, List.length_replicate, hO, St.hav _ ⟨rfl, rfl, rfl, trivial⟩⟩ ?_
  rintro ⟨x3, x4⟩ _ y1 ⟨J, G, hl3, hO, rfl⟩ hk hx1
  refine wpL_sq (wpL_sq (wpL_rg ?_))
  refine pM (.int _ _) ?_
  refine pM (.lit _ _ _) ?_
  refine pLen tS302 ?_
  refine pBi ?_
  refine pE (gn ?_)
  refine wpL_cd (b := decide (x4 < (aA0.length : Int))) (fun hb => ?_) (fun hb => ?_)
  · replace hk := ct hb hk
    refine wpL_sk (gn (wpL_sq (wpL_bl (wpL_rg ?_))))
    refine pM (.sl _ _ _) ?_
    refine pM (.int _ _) ?_
    refine pM (.lit _ _ _) ?_
    refine pM (.int _ _) ?_
    obtain ⟨c5, hc5, hk⟩ := bs hk
    refine pX hc5 tE302 tZ390 ?_
    refine pLp (.agg [_, _]) (rd2 (lm := 0) (off := 0) hc5 tA390 tZ390) ?_
    obtain ⟨v6, hv6, hk⟩ := bs hk
    refine pCall (fun _ => f350_run hv6) ?_
    obtain ⟨c7, hc7, hk⟩ := bs hk
    refine pXm hl3 hc7 tE216 tZ307 ?_
    refine pSm hO 0 hc7 tZ307 rfl v6 (.agg [_, _]) (fun G hO => ?_)
    refine pE (bn (gn (wpL_rg ?_)))
    refine pM (.int _ _) ?_
    refine pBi ?_
    refine pA (.int _ _) ?_
    refine pE (gn ?_)
    cases hk; exact ⟨_, rfl, _, _, (List.length_set.trans hl3), hO, St.hav _ ⟨rfl, rfl, rfl, trivial⟩⟩
  · replace hk := cf hb hk
    refine wpL_ex (ge (ge (be (gn ?_))))
    replace hk := lx hx1 hk
    refine wpL_sq (wpL_rg ?_)
    refine pM (.sl _ _ _) ?_
    refine pA (.sl _ _ _) ?_
    refine pE (gn (wpL_rt ?_))
    replace hk := Option.some.inj hk; subst hk; exact finThL hO (th_made (xs := x3) hl3 hlk 0) (resT (.sl _ _ _) resN)
/-- laws.toWay -/
def f269 (aA0 : Way) : Option Way :=
  ((f97 aA0.Sections).bind fun v4 => ((f325 aA0.Lies).bind fun v7 => ((f325 aA0.Flanks).bind fun v10 => ((f97 aA0.Over).bind fun v13 => ((f97 aA0.Near).bind fun v16 => some ({ Sections := v4, Lies := v7, Flanks := v10, Over := v13, Near := v16 } : Way))))))
theorem f269_run {aA0 : Way} {r : Way} {l1 l2 l3 l4 l5 : Nat} {H : Heap} {lk : Lk} (hk : f269 aA0 = some r) (hlk : 0 < lk.length := by simp) : ∃ v H1, runL Try.prog hh 269 [.agg [.lit l1 aA0.Sections.length ((flatL 0) aA0.Sections), .lit l2 aA0.Lies.length ((flatL 0) aA0.Lies), .lit l3 aA0.Flanks.length ((flatL 0) aA0.Flanks), .lit l4 aA0.Over.length ((flatL 0) aA0.Over), .lit l5 aA0.Near.length ((flatL 0) aA0.Near)]] H lk = some (v, H1) ∧ FreshS H r v H1 := by
  refine run_startR Try.func269 rfl Try.ntmps269 Try.results269 rfl rfl ?_
  have hO := Owns.nil H
  unfold f269 at hk
  refine wpL_sq (wpL_rg ?_)
  refine pBox (cs := [_, _, _, _, _]) hO tZ304 (fun b1 G hO => ?_)
  refine pNew hO tZ218 t0218 (fun b2 G hO => ?_)
  refine pE (gn (wpL_sq (wpL_rg ?_)))
  refine pNew hO tZ218 t0218 (fun b3 G hO => ?_)
  refine pE (gn (wpL_sq (wpL_rg ?_)))
  refine pF tF304_0 ?_
  refine pLo hO 2 (.lit _ _ _) tA26 ?_
  obtain ⟨v4, hv4, hk⟩ := bs hk
  refine pCN hO (fun _ => f97_run hv4) (fun u5 F5 G hO => ?_)
  refine pF tF218_0 ?_
  have hc6 := tl_cells hO (j := 0) rfl
  refine pSt (xs := [_]) hO 1 tZ26 rfl (fun G hO => ?_) (h3 := hc6.1) (h6 := one_cell hc6.2)
  refine pE (gn (wpL_sq (wpL_rg ?_)))
  refine pF tF304_1 ?_
  refine pLo hO 3 (.lit _ _ _) tA302 ?_
  obtain ⟨v7, hv7, hk⟩ := bs hk
  refine pCN hO (fun _ => f325_run hv7) (fun u8 F8 G hO => ?_)
  refine pF tF218_1 ?_
  have hc9 := tl_cells hO (j := 0) rfl
  refine pSt (xs := [_]) hO 2 tZ216 rfl (fun G hO => ?_) (h3 := hc9.1) (h6 := one_cell hc9.2)
  refine pE (gn (wpL_sq (wpL_rg ?_)))
  refine pF tF304_2 ?_
  refine pLo hO 4 (.lit _ _ _) tA302 ?_
  obtain ⟨v10, hv10, hk⟩ := bs hk
  refine pCN hO (fun _ => f325_run hv10) (fun u11 F11 G hO => ?_)
  refine pF tF218_2 ?_
  have hc12 := tl_cells hO (j := 0) rfl
  refine pSt (xs := [_]) hO 3 tZ216 rfl (fun G hO => ?_) (h3 := hc12.1) (h6 := one_cell hc12.2)
  refine pE (gn (wpL_sq (wpL_rg ?_)))
  refine pF tF304_3 ?_
  refine pLo hO 5 (.lit _ _ _) tA26 ?_
  obtain ⟨v13, hv13, hk⟩ := bs hk
  refine pCN hO (fun _ => f97_run hv13) (fun u14 F14 G hO => ?_)
  refine pF tF218_3 ?_
  have hc15 := tl_cells hO (j := 0) rfl
  refine pSt (xs := [_]) hO 4 tZ26 rfl (fun G hO => ?_) (h3 := hc15.1) (h6 := one_cell hc15.2)
  refine pE (gn (wpL_sq (wpL_rg ?_)))
  refine pF tF304_4 ?_
  refine pLo hO 6 (.lit _ _ _) tA26 ?_
  obtain ⟨v16, hv16, hk⟩ := bs hk
  refine pCN hO (fun _ => f97_run hv16) (fun u17 F17 G hO => ?_)
  refine pF tF218_4 ?_
  have hc18 := tl_cells hO (j := 0) rfl
  refine pSt (xs := [_]) hO 5 tZ26 rfl (fun G hO => ?_) (h3 := hc18.1) (h6 := one_cell hc18.2)
  refine pE (gn (wpL_sq (wpL_rg ?_)))
  refine pLs hO 5 [_, _, _, _, _] tA218 tZ218 ?_
  have hc19 := tl_cells hO (j := 4) rfl
  have hc20 := tl_cells hO (j := 3) rfl
  have hc21 := tl_cells hO (j := 2) rfl
  have hc22 := tl_cells hO (j := 1) rfl
  have hc23 := tl_cells hO (j := 0) rfl
  refine pSt (xs := [_, _, _, _, _]) hO 6 tZ218 rfl (fun G hO => ?_) (h6 := (all_c hc19.2 (all_c hc20.2 (all_c hc21.2 (all_c hc22.2 (all_c hc23.2 all_n))))))
  refine pE (gn (wpL_rt ?_))
  replace hk := Option.some.inj hk; subst hk; exact finThS hO (th_Way (x := ({ Sections := v4, Lies := v7, Flanks := v10, Over := v13, Near := v16 } : Way)) (th_pair (c1 := [_]) (th_tree (x := v4) 4) (th_pair (c1 := [_]) (th_tree (x := v7) 3) (th_pair (c1 := [_]) (th_tree (x := v10) 2) (th_pair (c1 := [_]) (th_tree (x := v13) 1) (th_tree (x := v16) 0)))))) (resS hO 6 [_, _, _, _, _] tA218 tZ218 resN)
/-- laws.toWayS -/
def f170_L1 (aA0 : List Way) : ((List Way) × Int) → Option (((List Way) × Int) ⊕ (List Way)) := fun s =>
  (bif decide (s.2 < (aA0.length : Int)) then ((getI aA0 s.2).bind fun c7 => ((f269 c7).bind fun v8 => ((getI s.1 s.2).bind fun c10 => some (.inl (s.1.set s.2.toNat v8, w64 (s.2 + (1:Int))))))) else ((some s.1).map Sum.inr))
def f170 (aA0 : List Way) : Option (List Way) :=
  ((makeB 120 (aA0.length : Int)).bind fun m1 => (loopO (f170_L1 aA0) (List.replicate m1 (⟨[], [], [], [], []⟩ : Way), (0:Int))))
theorem f170_run {aA0 : List Way} {r : (List Way)} {l1 m2 : Nat} {H : Heap} {lk : Lk} (hk : f170 aA0 = some r) (hlk : 0 < lk.length := by simp) : ∃ v H1, runL Try.prog hh 170 [.lit l1 aA0.length (flatL m2 aA0)] H lk = some (v, H1) ∧ FreshL H r v H1 := by
  refine run_startR Try.func170 rfl Try.ntmps170 Try.results170 rfl rfl ?_
  have hO := Owns.nil H
  unfold f170 at hk
  refine wpL_sq (wpL_rg ?_)
  refine pA (.tl 0 []) ?_
  refine pE (gn (wpL_sq (wpL_rg ?_)))
  refine pM (.lit _ _ _) ?_
  refine pLen tS72 ?_
  obtain ⟨m1, hm1, hk⟩ := bs hk
  refine pMkT hO hm1 (⟨[], [], [], [], []⟩ : Way) tE79 tZ218 tB218 t0218 (fun G => (show GoM.tr G (⟨[], [], [], [], []⟩ : Way) [(.tl 0 []), (.tl 0 []), (.tl 0 []), (.tl 0 []), (.tl 0 [])] [] from ⟨[_], _, [], [], rfl, rfl, .inl ⟨rfl, rfl, rfl⟩, ⟨[_], _, [], [], rfl, rfl, .inl ⟨rfl, rfl, rfl⟩, ⟨[_], _, [], [], rfl, rfl, .inl ⟨rfl, rfl, rfl⟩, ⟨[_], _, [], [], rfl, rfl, .inl ⟨rfl, rfl, rfl⟩, .inl ⟨rfl, rfl, rfl⟩⟩⟩⟩⟩)) (fun b2 G hO => ?_)
  refine pA (.sl b2 0 m1) ?_
  refine pE (gn (wpL_sq (wpL_sq (wpL_rg ?_))))
  refine pA (.int _ _) ?_
  refine pE (gn (wpL_bl ?_))
  refine wpL_loopO (F := f170_L1 aA0) (fun s S' => ∃ (F5 : List Nat) (J : Nat → V) (G : Heap), Owns H G [Tree [] F5 s.1 [.sl b2 0 m1]] ∧ S' = ⟨hav [(0, .lit l1 aA0.length (flatL m2 aA0)), (3, (.sl b2 0 m1)), (4, .int .i64 s.2)] J, G⟩) hk ⟨[b2], _, _, hO, St.hav _ ⟨rfl, rfl, rfl, trivial⟩⟩ ?_
  rintro ⟨x4, x6⟩ _ y1 ⟨F5, J, G, hO, rfl⟩ hk hx1
  refine wpL_sq (wpL_sq (wpL_rg ?_))
  refine pM (.int _ _) ?_
  refine pM (.lit _ _ _) ?_
  refine pLen tS72 ?_
  refine pBi ?_
  refine pE (gn ?_)
  refine wpL_cd (b := decide (x6 < (aA0.length : Int))) (fun hb => ?_) (fun hb => ?_)
  · replace hk := ct hb hk
    refine wpL_sk (gn (wpL_sq (wpL_bl (wpL_rg ?_))))
    refine pM (.sl b2 0 m1) ?_
    refine pM (.int _ _) ?_
    refine pM (.lit _ _ _) ?_
    refine pM (.int _ _) ?_
    obtain ⟨c7, hc7, hk⟩ := bs hk
    refine pX hc7 tE72 tZ304 ?_
    refine pLp (.agg [_, _, _, _, _]) (rd2 (lm := m2) (off := 0) hc7 tA304 tZ304) ?_
    obtain ⟨v8, hv8, hk⟩ := bs hk
    refine pCNs hO (fun _ => f269_run hv8) (fun u9 F9 G hO => ?_)
    obtain ⟨c10, hc10, hk⟩ := bs hk
    refine pXT hO 1 hc10 tE79 tZ218 (fun b11 hb11 => ?_)
    refine pSTT hO 0 hb11 hc10 tZ218 rfl (fun G hO => ?_)
    refine pE (bn (gn (wpL_rg ?_)))
    refine pM (.int _ _) ?_
    refine pBi ?_
    refine pA (.int _ _) ?_
    refine pE (gn ?_)
    cases hk; exact ⟨_, rfl, (F5 ++ F9), _, _, hO, St.hav _ ⟨rfl, rfl, rfl, trivial⟩⟩
  · replace hk := cf hb hk
    refine wpL_ex (ge (ge (be (gn ?_))))
    replace hk := lx hx1 hk
    refine wpL_sq (wpL_rg ?_)
    refine pM (.sl b2 0 m1) ?_
    refine pA (.sl b2 0 m1) ?_
    refine pE (gn (wpL_rt ?_))
    replace hk := Option.some.inj hk; subst hk; exact finThL hO (th_tree (x := x4) 0) (resT (.sl b2 0 m1) resN)
/-- laws.toBoolS -/
def f143_L1 (aA0 : List Bool) : ((List Bool) × Int) → Option (((List Bool) × Int) ⊕ (List Bool)) := fun s =>
  (bif decide (s.2 < (aA0.length : Int)) then ((getI aA0 s.2).bind fun c5 => ((getI s.1 s.2).bind fun c6 => some (.inl (s.1.set s.2.toNat c5, w64 (s.2 + (1:Int)))))) else ((some s.1).map Sum.inr))
def f143 (aA0 : List Bool) : Option (List Bool) :=
  ((makeB 1 (aA0.length : Int)).bind fun m1 => (loopO (f143_L1 aA0) (List.replicate m1 (false : Bool), (0:Int))))
theorem f143_run {aA0 : List Bool} {r : (List Bool)} {l1 : Nat} {H : Heap} {lk : Lk} (hk : f143 aA0 = some r) (hlk : 0 < lk.length := by simp) : ∃ v H1, runL Try.prog hh 143 [.lit l1 aA0.length ((flatL 0) aA0)] H lk = some (v, H1) ∧ FreshL H r v H1 := by
  refine run_startR Try.func143 rfl Try.ntmps143 Try.results143 rfl rfl ?_
  have hO := Owns.nil H
  unfold f143 at hk
  refine wpL_sq (wpL_rg ?_)
  refine pA (.tl 0 []) ?_
  refine pE (gn (wpL_sq (wpL_rg ?_)))
  refine pM (.lit _ _ _) ?_
  refine pLen tS38 ?_
  obtain ⟨m1, hm1, hk⟩ := bs hk
  refine pMk hO hm1 (false : Bool) tE38 tZ4 tB4 t04 (fun b2 G hO => ?_)
  refine pA (.sl _ _ _) ?_
  refine pE (gn (wpL_sq (wpL_sq (wpL_rg ?_))))
  refine pA (.int _ _) ?_
  refine pE (gn (wpL_bl ?_))
  refine wpL_loopO (F := f143_L1 aA0) (fun s S' => ∃ (J : Nat → V) (G : Heap), s.1.length = m1 ∧ Owns H G [.blk b2 (.cells 1 ((flatL 0) s.1))] ∧ S' = ⟨hav [(0, .lit l1 aA0.length ((flatL 0) aA0)), (3, .sl b2 0 m1), (4, .int .i64 s.2)] J, G⟩) hk ⟨_, _, List.length_replicate, hO, St.hav _ ⟨rfl, rfl, rfl, trivial⟩⟩ ?_
  rintro ⟨x3, x4⟩ _ y1 ⟨J, G, hl3, hO, rfl⟩ hk hx1
  refine wpL_sq (wpL_sq (wpL_rg ?_))
  refine pM (.int _ _) ?_
  refine pM (.lit _ _ _) ?_
  refine pLen tS38 ?_
  refine pBi ?_
  refine pE (gn ?_)
  refine wpL_cd (b := decide (x4 < (aA0.length : Int))) (fun hb => ?_) (fun hb => ?_)
  · replace hk := ct hb hk
    refine wpL_sk (gn (wpL_sq (wpL_bl (wpL_rg ?_))))
    refine pM (.sl _ _ _) ?_
    refine pM (.int _ _) ?_
    refine pM (.lit _ _ _) ?_
    refine pM (.int _ _) ?_
    obtain ⟨c5, hc5, hk⟩ := bs hk
    refine pX hc5 tE38 tZ4 ?_
    refine pLp (.bool _) (rd1 (lm := 0) (off := 0) hc5 tA4) ?_
    obtain ⟨c6, hc6, hk⟩ := bs hk
    refine pXm hl3 hc6 tE38 tZ4 ?_
    refine pSm hO 0 hc6 tZ4 rfl c5 (.bool _) (fun G hO => ?_)
    refine pE (bn (gn (wpL_rg ?_)))
    refine pM (.int _ _) ?_
    refine pBi ?_
    refine pA (.int _ _) ?_
    refine pE (gn ?_)
    cases hk; exact ⟨_, rfl, _, _, (List.length_set.trans hl3), hO, St.hav _ ⟨rfl, rfl, rfl, trivial⟩⟩
  · replace hk := cf hb hk
    refine wpL_ex (ge (ge (be (gn ?_))))
    replace hk := lx hx1 hk
    refine wpL_sq (wpL_rg ?_)
    refine pM (.sl _ _ _) ?_
    refine pA (.sl _ _ _) ?_
    refine pE (gn (wpL_rt ?_))
    replace hk := Option.some.inj hk; subst hk; exact finThL hO (th_made (xs := x3) hl3 hlk 0) (resT (.sl _ _ _) resN)
/-- laws.toBoolSS -/
def f144_L1 (aA0 : List (List Bool)) : ((List (List Bool)) × Int) → Option (((List (List Bool)) × Int) ⊕ (List (List Bool))) := fun s =>
  (bif decide (s.2 < (aA0.length : Int)) then ((getI aA0 s.2).bind fun c7 => ((f143 c7).bind fun v8 => ((getI s.1 s.2).bind fun c10 => some (.inl (s.1.set s.2.toNat v8, w64 (s.2 + (1:Int))))))) else ((some s.1).map Sum.inr))
def f144 (aA0 : List (List Bool)) : Option (List (List Bool)) :=
  ((makeB 24 (aA0.length : Int)).bind fun m1 => (loopO (f144_L1 aA0) (List.replicate m1 ([] : List Bool), (0:Int))))
theorem f144_run {aA0 : List (List Bool)} {r : (List (List Bool))} {l1 m2 : Nat} {H : Heap} {lk : Lk} (hk : f144 aA0 = some r) (hlk : 0 < lk.length := by simp) : ∃ v H1, runL Try.prog hh 144 [.lit l1 aA0.length (flatL m2 aA0)] H lk = some (v, H1) ∧ FreshL H r v H1 := by
  refine run_startR Try.func144 rfl Try.ntmps144 Try.results144 rfl rfl ?_
  have hO := Owns.nil H
  unfold f144 at hk
  refine wpL_sq (wpL_rg ?_)
  refine pA (.tl 0 []) ?_
  refine pE (gn (wpL_sq (wpL_rg ?_)))
  refine pM (.lit _ _ _) ?_
  refine pLen tS45 ?_
  obtain ⟨m1, hm1, hk⟩ := bs hk
  refine pMkT hO hm1 ([] : List Bool) tE45 tZ38 tB38 t038 (fun G => (show GoM.tr G ([] : List Bool) [(.tl 0 [])] [] from .inl ⟨rfl, rfl, rfl⟩)) (fun b2 G hO => ?_)
  refine pA (.sl b2 0 m1) ?_
  refine pE (gn (wpL_sq (wpL_sq (wpL_rg ?_))))
  refine pA (.int _ _) ?_
  refine pE (gn (wpL_bl ?_))
  refine wpL_loopO (F := f144_L1 aA0) (fun s S' => ∃ (F5 : List Nat) (J : Nat → V) (G : Heap), Owns H G [Tree [] F5 s.1 [.sl b2 0 m1]] ∧ S' = ⟨hav [(0, .lit l1 aA0.length (flatL m2 aA0)), (3, (.sl b2 0 m1)), (4, .int .i64 s.2)] J, G⟩) hk ⟨[b2], _, _, hO, St.hav _ ⟨rfl, rfl, rfl, trivial⟩⟩ ?_
  rintro ⟨x4, x6⟩ _ y1 ⟨F5, J, G, hO, rfl⟩ hk hx1
  refine wpL_sq (wpL_sq (wpL_rg ?_))
  refine pM (.int _ _) ?_
  refine pM (.lit _ _ _) ?_
  refine pLen tS45 ?_
  refine pBi ?_
  refine pE (gn ?_)
  refine wpL_cd (b := decide (x6 < (aA0.length : Int))) (fun hb => ?_) (fun hb => ?_)
  · replace hk := ct hb hk
    refine wpL_sk (gn (wpL_sq (wpL_bl (wpL_rg ?_))))
    refine pM (.sl b2 0 m1) ?_
    refine pM (.int _ _) ?_
    refine pM (.lit _ _ _) ?_
    refine pM (.int _ _) ?_
    obtain ⟨c7, hc7, hk⟩ := bs hk
    refine pX hc7 tE45 tZ38 ?_
    refine pLp (.lit _ _ _) (rd1 (lm := m2) (off := 0) hc7 tA38) ?_
    obtain ⟨v8, hv8, hk⟩ := bs hk
    refine pCN hO (fun _ => f143_run hv8) (fun u9 F9 G hO => ?_)
    obtain ⟨c10, hc10, hk⟩ := bs hk
    refine pXT hO 1 hc10 tE45 tZ38 (fun b11 hb11 => ?_)
    refine pSTT hO 0 hb11 hc10 tZ38 rfl (fun G hO => ?_) (h3 := (tl_cells hO (j := 0) rfl).1)
    refine pE (bn (gn (wpL_rg ?_)))
    refine pM (.int _ _) ?_
    refine pBi ?_
    refine pA (.int _ _) ?_
    refine pE (gn ?_)
    cases hk; exact ⟨_, rfl, (F5 ++ F9), _, _, hO, St.hav _ ⟨rfl, rfl, rfl, trivial⟩⟩
  · replace hk := cf hb hk
    refine wpL_ex (ge (ge (be (gn ?_))))
    replace hk := lx hx1 hk
    refine wpL_sq (wpL_rg ?_)
    refine pM (.sl b2 0 m1) ?_
    refine pA (.sl b2 0 m1) ?_
    refine pE (gn (wpL_rt ?_))
    replace hk := Option.some.inj hk; subst hk; exact finThL hO (th_tree (x := x4) 0) (resT (.sl b2 0 m1) resN)
/-- laws.toPlan -/
def f53 (aA0 : Plan) : Option Plan :=
  ((f97 aA0.Switches).bind fun v4 => ((f170 aA0.Ways).bind fun v7 => ((f144 aA0.Bars).bind fun v10 => some ({ Sections := aA0.Sections, Switches := v4, Ways := v7, Bars := v10, Hold := aA0.Hold } : Plan))))
theorem f53_run {aA0 : Plan} {r : Plan} {l1 l2 m3 l4 m5 : Nat} {H : Heap} {lk : Lk} (hk : f53 aA0 = some r) (hlk : 0 < lk.length := by simp) : ∃ v H1, runL Try.prog hh 53 [.agg [.int .i64 aA0.Sections, .lit l1 aA0.Switches.length ((flatL 0) aA0.Switches), .lit l2 aA0.Ways.length (flatL m3 aA0.Ways), .lit l4 aA0.Bars.length (flatL m5 aA0.Bars), .int .i64 aA0.Hold]] H lk = some (v, H1) ∧ FreshS H r v H1 := by
  refine run_startR Try.func53 rfl Try.ntmps53 Try.results53 rfl rfl ?_
  have hO := Owns.nil H
  unfold f53 at hk
  refine wpL_sq (wpL_rg ?_)
  refine pBox (cs := [_, _, _, _, _]) hO tZ74 (fun b1 G hO => ?_)
  refine pNew hO tZ81 t081 (fun b2 G hO => ?_)
  refine pE (gn (wpL_sq (wpL_rg ?_)))
  refine pNew hO tZ81 t081 (fun b3 G hO => ?_)
  refine pE (gn (wpL_sq (wpL_rg ?_)))
  refine pF tF74_0 ?_
  refine pLo hO 2 (.int _ _) tA3 ?_
  refine pF tF81_0 ?_
  refine pSt (xs := [_]) hO 0 tZ3 rfl (fun G hO => ?_)
  refine pE (gn (wpL_sq (wpL_rg ?_)))
  refine pF tF74_1 ?_
  refine pLo hO 2 (.lit _ _ _) tA26 ?_
  obtain ⟨v4, hv4, hk⟩ := bs hk
  refine pCN hO (fun _ => f97_run hv4) (fun u5 F5 G hO => ?_)
  refine pF tF81_1 ?_
  have hc6 := tl_cells hO (j := 0) rfl
  refine pSt (xs := [_]) hO 1 tZ26 rfl (fun G hO => ?_) (h3 := hc6.1) (h6 := one_cell hc6.2)
  refine pE (gn (wpL_sq (wpL_rg ?_)))
  refine pF tF74_2 ?_
  refine pLo hO 3 (.lit _ _ _) tA72 ?_
  obtain ⟨v7, hv7, hk⟩ := bs hk
  refine pCN hO (fun _ => f170_run hv7) (fun u8 F8 G hO => ?_)
  refine pF tF81_2 ?_
  have hc9 := tl_cells hO (j := 0) rfl
  refine pSt (xs := [_]) hO 2 tZ79 rfl (fun G hO => ?_) (h3 := hc9.1) (h6 := one_cell hc9.2)
  refine pE (gn (wpL_sq (wpL_rg ?_)))
  refine pF tF74_3 ?_
  refine pLo hO 4 (.lit _ _ _) tA45 ?_
  obtain ⟨v10, hv10, hk⟩ := bs hk
  refine pCN hO (fun _ => f144_run hv10) (fun u11 F11 G hO => ?_)
  refine pF tF81_3 ?_
  have hc12 := tl_cells hO (j := 0) rfl
  refine pSt (xs := [_]) hO 3 tZ45 rfl (fun G hO => ?_) (h3 := hc12.1) (h6 := one_cell hc12.2)
  refine pE (gn (wpL_sq (wpL_rg ?_)))
  refine pF tF74_4 ?_
  refine pLo hO 5 (.int _ _) tA3 ?_
  refine pF tF81_4 ?_
  refine pSt (xs := [_]) hO 3 tZ3 rfl (fun G hO => ?_)
  refine pE (gn (wpL_sq (wpL_rg ?_)))
  refine pLs hO 3 [_, _, _, _, _] tA81 tZ81 ?_
  have hc13 := tl_cells hO (j := 2) rfl
  have hc14 := tl_cells hO (j := 1) rfl
  have hc15 := tl_cells hO (j := 0) rfl
  refine pSt (xs := [_, _, _, _, _]) hO 4 tZ81 rfl (fun G hO => ?_) (h6 := (all_c rfl (all_c hc13.2 (all_c hc14.2 (all_c hc15.2 (all_c rfl all_n))))))
  refine pE (gn (wpL_rt ?_))
  replace hk := Option.some.inj hk; subst hk; exact finThS hO (th_Plan (x := ({ Sections := aA0.Sections, Switches := v4, Ways := v7, Bars := v10, Hold := aA0.Hold } : Plan)) (th_pair (c1 := [_]) (th_int aA0.Sections) (th_pair (c1 := [_]) (th_tree (x := v4) 2) (th_pair (c1 := [_]) (th_tree (x := v7) 1) (th_pair (c1 := [_]) (th_tree (x := v10) 0) (th_int aA0.Hold)))))) (resS hO 4 [_, _, _, _, _] tA81 tZ81 resN)
/-- spec.l17in -/
def f167 (aX0 : Int) (aA1 : Int) (aB2 : Int) : Option Bool :=
  some (decide (aX0 ≥ aA1) && decide (aX0 ≤ aB2))
theorem f167_run {aX0 : Int} {aA1 : Int} {aB2 : Int} {r : Bool} {H : Heap} {lk : Lk} (hk : f167 aX0 aA1 aB2 = some r) (hlk : 0 < lk.length := by simp) : runL Try.prog hh 167 [.int .i64 aX0, .int .i64 aA1, .int .i64 aB2] H lk = some (.bool r, H) := by
  refine run_start Try.func167 rfl Try.ntmps167 Try.results167 rfl rfl fun hO => ?_
  unfold f167 at hk
  refine wpL_sq (wpL_rg ?_)
  refine pA (.bool _) ?_
  refine pE (gn (wpL_sq (wpL_rg ?_)))
  refine pM (.int _ _) ?_
  refine pM (.int _ _) ?_
  refine pBi ?_
  refine pM (.bool _) ?_
  refine wpR_mid (l1 := [_, _, _, _]) (fun S' => ∃ J, S' = ⟨hav [(14, .bool (decide (aX0 ≥ aA1) && decide (aX0 ≤ aB2)))] J, H⟩) ?_ ?_
  · refine bc (b := decide (aX0 ≥ aA1)) (fun hg1 => ?_) (fun hg1 => ?_)
    · refine pGy hg1 ?_
      refine pM (.int _ _) ?_
      refine pGy hg1 ?_
      refine pM (.int _ _) ?_
      refine pGy hg1 ?_
      refine pBi ?_
      refine pPt hg1 (.bool _) ?_
      exact pE ⟨_, St.hav _ ⟨by rw [hg1]; rfl, trivial⟩⟩
    · refine pGn hg1 ?_
      refine pGn hg1 ?_
      refine pGn hg1 ?_
      refine pPf hg1 (.bool _) ?_
      exact pE ⟨_, St.hav _ ⟨by rw [hg1]; rfl, trivial⟩⟩
  · rintro _ ⟨J, rfl⟩
    refine pA (.bool _) ?_
    refine pE (gn (wpL_rt ?_))
    replace hk := Option.some.inj hk; subst hk; exact fin0 hO
/-- spec.l17list -/
def f267_L2 (aList0 : List Int) (x1 : Int) (c2 : Int) : Int → Option (Int ⊕ (Int ⊕ Bool)) := fun s =>
  (bif decide (s < x1) then ((getI aList0 s).bind fun c5 => (bif (c5 == c2) then (((some false).map Sum.inr).map Sum.inr) else some (.inl (w64 (s + (1:Int)))))) else ((some (.inl (w64 (x1 + (1:Int))))).map Sum.inr))
def f267_L1 (aList0 : List Int) (aN1 : Int) : Int → Option (Int ⊕ Bool) := fun s =>
  (bif decide (s < (aList0.length : Int)) then ((getI aList0 s).bind fun c2 => ((f167 c2 (0:Int) (w64 (aN1 - (1:Int)))).bind fun v3 => (bif !v3 then ((some false).map Sum.inr) else (loopO (f267_L2 aList0 s c2) ((0:Int)))))) else ((some (decide ((aList0.length : Int) ≤ (30:Int)))).map Sum.inr))
def f267 (aList0 : List Int) (aN1 : Int) : Option Bool :=
  (loopO (f267_L1 aList0 aN1) ((0:Int)))
theorem f267_run {aList0 : List Int} {aN1 : Int} {r : Bool} {l1 : Nat} {H : Heap} {lk : Lk} (hk : f267 aList0 aN1 = some r) (hlk : 0 < lk.length := by simp) : runL Try.prog hh 267 [.lit l1 aList0.length ((flatL 0) aList0), .int .i64 aN1] H lk = some (.bool r, H) := by
  refine run_start Try.func267 rfl Try.ntmps267 Try.results267 rfl rfl fun hO => ?_
  unfold f267 at hk
  refine wpL_sq (wpL_rg ?_)
  refine pA (.bool _) ?_
  refine pE (gn (wpL_sq (wpL_sq (wpL_rg ?_))))
  refine pM (.lit _ _ _) ?_
  refine pLen tS26 ?_
  refine pM (.int _ _) ?_
  refine pE (gn (wpL_bl ?_))
  refine wpL_loopO (F := f267_L1 aList0 aN1) (fun s S' => ∃ (J : Nat → V) (G : Heap), Owns H G [] ∧ S' = ⟨hav [(0, .lit l1 aList0.length ((flatL 0) aList0)), (1, .int .i64 aN1), (8, .lit l1 aList0.length ((flatL 0) aList0)), (9, .int .i64 (aList0.length : Int)), (10, .int .i64 s)] J, G⟩) hk ⟨_, _, hO, St.hav _ ⟨rfl, rfl, rfl, rfl, rfl, trivial⟩⟩ ?_
  rintro x1 _ y1 ⟨J, G, hO, rfl⟩ hk hx1
  refine wpL_sq (wpL_rg ?_)
  refine pBi ?_
  refine pE (gn (wpL_sq ?_))
  refine wpL_cd (b := decide (x1 < (aList0.length : Int))) (fun hb => ?_) (fun hb => ?_)
  · replace hk := ct hb hk
    refine wpL_sk (gn (wpL_sq (wpL_bl (wpL_sq (wpL_rg ?_)))))
    refine pM (.int _ _) ?_
    obtain ⟨c2, hc2, hk⟩ := bs hk
    refine pX hc2 tE26 tZ3 ?_
    refine pLp (.int _ _) (rd1 (lm := 0) (off := 0) hc2 tA3) ?_
    refine pA (.int _ _) ?_
    refine pA (.int _ _) ?_
    refine pE (gn (wpL_sq (wpL_sq (wpL_rg ?_))))
    refine pM (.int _ _) ?_
    refine pM (.int _ _) ?_
    refine pBi ?_
    obtain ⟨v3, hv3, hk⟩ := bs hk
    refine pCall (fun _ => f167_run hv3) ?_
    refine pU ?_
    refine pE (gn ?_)
    refine wpL_cd (b := !v3) (fun hb => ?_) (fun hb => ?_)
    · replace hk := ct hb hk
      refine wpL_sq (wpL_rg ?_)
      refine pA (.bool _) ?_
      refine pE (gn (wpL_rt (gr (br (gr (gr (br (gr ?_))))))))
      replace hk := lx hx1 hk
      replace hk := Option.some.inj hk; subst hk; exact fin0 hO
    · replace hk := cf hb hk
      refine wpL_sk (gn (wpL_sq (wpL_rg ?_)))
      refine pA (.int _ _) ?_
      refine pE (gn (wpL_bl ?_))
      refine wpL_loopO (F := f267_L2 aList0 x1 c2) (fun s S' => ∃ (J : Nat → V) (G : Heap), Owns H G [] ∧ S' = ⟨hav [(0, .lit l1 aList0.length ((flatL 0) aList0)), (1, .int .i64 aN1), (5, .int .i64 x1), (6, .int .i64 c2), (7, .int .i64 s), (8, .lit l1 aList0.length ((flatL 0) aList0)), (9, .int .i64 (aList0.length : Int)), (10, .int .i64 x1)] J, G⟩) hk ⟨_, _, hO, St.hav _ ⟨rfl, rfl, rfl, rfl, rfl, rfl, rfl, rfl, trivial⟩⟩ ?_
      rintro x4 _ y2 ⟨J, G, hO, rfl⟩ hk hx2
      refine wpL_sq (wpL_sq (wpL_rg ?_))
      refine pM (.int _ _) ?_
      refine pM (.int _ _) ?_
      refine pBi ?_
      refine pE (gn ?_)
      refine wpL_cd (b := decide (x4 < x1)) (fun hb => ?_) (fun hb => ?_)
      · replace hk := ct hb hk
        refine wpL_sk (gn (wpL_sq (wpL_bl (wpL_sq (wpL_rg ?_)))))
        refine pM (.lit _ _ _) ?_
        refine pM (.int _ _) ?_
        obtain ⟨c5, hc5, hk⟩ := bs hk
        refine pX hc5 tE26 tZ3 ?_
        refine pLp (.int _ _) (rd1 (lm := 0) (off := 0) hc5 tA3) ?_
        refine pM (.int _ _) ?_
        refine pBi ?_
        refine pE (gn ?_)
        refine wpL_cd (b := (c5 == c2)) (fun hb => ?_) (fun hb => ?_)
        · replace hk := ct hb hk
          refine wpL_sq (wpL_rg ?_)
          refine pA (.bool _) ?_
          refine pE (gn (wpL_rt (br (gr (gr (br (br (gr (gr (br (gr ?_)))))))))))
          replace hk := lx hx2 hk
          replace hk := lx hx1 hk
          replace hk := Option.some.inj hk; subst hk; exact fin0 hO
        · replace hk := cf hb hk
          refine wpL_sk (bn (gn (wpL_rg ?_)))
          refine pM (.int _ _) ?_
          refine pBi ?_
          refine pA (.int _ _) ?_
          refine pE (gn ?_)
          cases hk; exact ⟨_, rfl, _, _, hO, St.hav _ ⟨rfl, rfl, rfl, rfl, rfl, rfl, rfl, rfl, trivial⟩⟩
      · replace hk := cf hb hk
        refine wpL_ex (ge (ge (be (bn (gn ?_)))))
        replace hk := lx hx2 hk
        refine wpL_rg ?_
        refine pBi ?_
        refine pM (.int _ _) ?_
        refine pE (gn ?_)
        cases hk; exact ⟨_, rfl, _, _, hO, St.hav _ ⟨rfl, rfl, rfl, rfl, rfl, trivial⟩⟩
  · replace hk := cf hb hk
    refine wpL_ex (ge (ge (be (gn ?_))))
    replace hk := lx hx1 hk
    refine wpL_sq (wpL_rg ?_)
    refine pM (.lit _ _ _) ?_
    refine pLen tS26 ?_
    refine pBi ?_
    refine pA (.bool _) ?_
    refine pE (gn (wpL_rt ?_))
    replace hk := Option.some.inj hk; subst hk; exact fin0 hO
/-- spec.l17lies -/
def f268_L2 (aList1 : List Turn) (x2 : Int) (c3 : Turn) : Int → Option (Int ⊕ (Int ⊕ Bool)) := fun s =>
  (bif decide (s < x2) then ((getI aList1 s).bind fun c9 => (bif (c9.Switch == c3.Switch) then (((some false).map Sum.inr).map Sum.inr) else some (.inl (w64 (s + (1:Int)))))) else ((some (.inl (w64 (x2 + (1:Int))))).map Sum.inr))
def f268_L1 (aP0 : Plan) (aList1 : List Turn) : Int → Option (Int ⊕ Bool) := fun s =>
  (bif decide (s < (aList1.length : Int)) then ((getI aList1 s).bind fun c3 => ((f167 c3.Switch (0:Int) (w64 ((aP0.Switches.length : Int) - (1:Int)))).bind fun v5 => ((bif !v5 then some true else ((f167 c3.Lie (1:Int) (2:Int)).bind fun v7 => some (!v7))).bind fun t6 => (bif t6 then ((some false).map Sum.inr) else (loopO (f268_L2 aList1 s c3) ((0:Int))))))) else ((some (decide ((aList1.length : Int) ≤ (30:Int)))).map Sum.inr))
def f268 (aP0 : Plan) (aList1 : List Turn) : Option Bool :=
  (loopO (f268_L1 aP0 aList1) ((0:Int)))
theorem f268_run {aP0 : Plan} {aList1 : List Turn} {r : Bool} {l1 l2 m3 l4 m5 l6 : Nat} {H : Heap} {lk : Lk} (hk : f268 aP0 aList1 = some r) (hlk : 0 < lk.length := by simp) : runL Try.prog hh 268 [.agg [.int .i64 aP0.Sections, .lit l1 aP0.Switches.length ((flatL 0) aP0.Switches), .lit l2 aP0.Ways.length (flatL m3 aP0.Ways), .lit l4 aP0.Bars.length (flatL m5 aP0.Bars), .int .i64 aP0.Hold], .lit l6 aList1.length ((flatL 0) aList1)] H lk = some (.bool r, H) := by
  refine run_start Try.func268 rfl Try.ntmps268 Try.results268 rfl rfl fun hO => ?_
  unfold f268 at hk
  refine wpL_sq (wpL_rg ?_)
  refine pBox (cs := [_, _, _, _, _]) hO tZ81 (fun b1 G hO => ?_)
  refine pA (.bool _) ?_
  refine pE (gn (wpL_sq (wpL_sq (wpL_rg ?_))))
  refine pM (.lit _ _ _) ?_
  refine pLen tS216 ?_
  refine pM (.int _ _) ?_
  refine pE (gn (wpL_bl ?_))
  refine wpL_loopO (F := f268_L1 aP0 aList1) (fun s S' => ∃ (J : Nat → V) (G : Heap), Owns H G [.blk b1 (.cells 5 [.int .i64 aP0.Sections, .lit l1 aP0.Switches.length ((flatL 0) aP0.Switches), .lit l2 aP0.Ways.length (flatL m3 aP0.Ways), .lit l4 aP0.Bars.length (flatL m5 aP0.Bars), .int .i64 aP0.Hold])] ∧ S' = ⟨hav [(1, .lit l6 aList1.length ((flatL 0) aList1)), (2, .ptr b1 0), (8, .lit l6 aList1.length ((flatL 0) aList1)), (9, .int .i64 (aList1.length : Int)), (10, .int .i64 s)] J, G⟩) hk ⟨_, _, hO, St.hav _ ⟨rfl, rfl, rfl, rfl, rfl, trivial⟩⟩ ?_
  rintro x2 _ y1 ⟨J, G, hO, rfl⟩ hk hx1
  refine wpL_sq (wpL_rg ?_)
  refine pBi ?_
  refine pE (gn (wpL_sq ?_))
  refine wpL_cd (b := decide (x2 < (aList1.length : Int))) (fun hb => ?_) (fun hb => ?_)
  · replace hk := ct hb hk
    refine wpL_sk (gn (wpL_sq (wpL_bl (wpL_sq (wpL_rg ?_)))))
    refine pM (.int _ _) ?_
    obtain ⟨c3, hc3, hk⟩ := bs hk
    refine pX hc3 tE216 tZ307 ?_
    refine pLp (.agg [_, _]) (rd2 (lm := 0) (off := 0) hc3 tA307 tZ307) ?_
    refine pNew hO tZ307 t0307 (fun b4 G hO => ?_)
    refine pA (.int _ _) ?_
    refine pSt (xs := [_, _]) hO 0 tZ307 rfl (fun G hO => ?_)
    refine pE (gn (wpL_sq (wpL_sq (wpL_rg ?_))))
    refine pF tF307_0 ?_
    refine pLo hO 0 (.int _ _) tA3 ?_
    refine pF tF81_1 ?_
    refine pLo hO 1 (.lit _ _ _) tA26 ?_
    refine pLen tS26 ?_
    refine pBi ?_
    obtain ⟨v5, hv5, hk⟩ := bs hk
    refine pCall (fun _ => f167_run hv5) ?_
    refine pU ?_
    refine pM (.bool _) ?_
    obtain ⟨t6, ht, hk⟩ := bs hk
    refine wpR_mid (l1 := [_, _, _, _, _]) (fun S' => ∃ J, S' = ⟨hav [(1, .lit l6 aList1.length ((flatL 0) aList1)), (2, .ptr b1 0), (5, .int .i64 x2), (6, .ptr b4 0), (8, .lit l6 aList1.length ((flatL 0) aList1)), (9, .int .i64 (aList1.length : Int)), (10, .int .i64 x2), (28, .bool t6)] J, G⟩) ?_ ?_
    · refine bc (b := !v5) (fun hg1 => ?_) (fun hg1 => ?_)
      · replace hk := ct hg1 ht
        refine pGn hg1 ?_
        refine pGn hg1 ?_
        refine pGn hg1 ?_
        refine pGn hg1 ?_
        refine pPt hg1 (.bool _) ?_
        cases hk; exact pE ⟨_, St.hav _ ⟨rfl, rfl, rfl, rfl, rfl, rfl, rfl, rfl, trivial⟩⟩
      · replace hk := cf hg1 ht
        refine pGy hg1 ?_
        refine pF tF307_1 ?_
        refine pGy hg1 ?_
        refine pLo hO 0 (.int _ _) tA3 ?_
        refine pGy hg1 ?_
        obtain ⟨v7, hv7, hk⟩ := bs hk
        refine pCall (fun _ => f167_run hv7) ?_
        refine pGy hg1 ?_
        refine pU ?_
        refine pPf hg1 (.bool _) ?_
        cases hk; exact pE ⟨_, St.hav _ ⟨rfl, rfl, rfl, rfl, rfl, rfl, rfl, rfl, trivial⟩⟩
    · rintro _ ⟨J, rfl⟩
      refine pE (gn ?_)
      refine wpL_cd (b := t6) (fun hb => ?_) (fun hb => ?_)
      · replace hk := ct hb hk
        refine wpL_sq (wpL_rg ?_)
        refine pA (.bool _) ?_
        refine pE (gn (wpL_rt (gr (br (gr (gr (br (gr ?_))))))))
        replace hk := lx hx1 hk
        replace hk := Option.some.inj hk; subst hk; exact fin0 hO
      · replace hk := cf hb hk
        refine wpL_sk (gn (wpL_sq (wpL_rg ?_)))
        refine pA (.int _ _) ?_
        refine pE (gn (wpL_bl ?_))
        refine wpL_loopO (F := f268_L2 aList1 x2 c3) (fun s S' => ∃ (J : Nat → V) (G : Heap), Owns H G [.blk b4 (.cells 2 [.int .i64 c3.Switch, .int .i64 c3.Lie]), .blk b1 (.cells 5 [.int .i64 aP0.Sections, .lit l1 aP0.Switches.length ((flatL 0) aP0.Switches), .lit l2 aP0.Ways.length (flatL m3 aP0.Ways), .lit l4 aP0.Bars.length (flatL m5 aP0.Bars), .int .i64 aP0.Hold])] ∧ S' = ⟨hav [(1, .lit l6 aList1.length ((flatL 0) aList1)), (2, .ptr b1 0), (5, .int .i64 x2), (6, .ptr b4 0), (7, .int .i64 s), (8, .lit l6 aList1.length ((flatL 0) aList1)), (9, .int .i64 (aList1.length : Int)), (10, .int .i64 x2)] J, G⟩) hk ⟨_, _, hO, St.hav _ ⟨rfl, rfl, rfl, rfl, rfl, rfl, rfl, rfl, trivial⟩⟩ ?_
        rintro x8 _ y2 ⟨J, G, hO, rfl⟩ hk hx2
        refine wpL_sq (wpL_sq (wpL_rg ?_))
        refine pM (.int _ _) ?_
        refine pM (.int _ _) ?_
        refine pBi ?_
        refine pE (gn ?_)
        refine wpL_cd (b := decide (x8 < x2)) (fun hb => ?_) (fun hb => ?_)
        · replace hk := ct hb hk
          refine wpL_sk (gn (wpL_sq (wpL_bl (wpL_sq ?_))))
          refine wpL_drw [(0, true), (1, true), (2, true), (3, true), (4, true), (5, true), (6, true), (7, false)] [_, _, _, _, _, _, _, _] (by decide +kernel) (by rfl) ?_
          refine pM (.lit _ _ _) ?_
          refine pM (.int _ _) ?_
          obtain ⟨c9, hc9, hk⟩ := bs hk
          refine pX hc9 tE216 tZ307 ?_
          refine pF tF307_0 ?_
          refine pLp (.int _ _) (rd1 (lm := 0) (off := 0) hc9 tA3) ?_
          refine pF tF307_0 ?_
          refine pLo hO 0 (.int _ _) tA3 ?_
          refine pBi ?_
          refine pE (gn ?_)
          refine wpL_cd (b := (c9.Switch == c3.Switch)) (fun hb => ?_) (fun hb => ?_)
          · replace hk := ct hb hk
            refine wpL_sq (wpL_rg ?_)
            refine pA (.bool _) ?_
            refine pE (gn (wpL_rt (br (gr (gr (br (br (gr (gr (br (gr ?_)))))))))))
            replace hk := lx hx2 hk
            replace hk := lx hx1 hk
            replace hk := Option.some.inj hk; subst hk; exact fin0 hO
          · replace hk := cf hb hk
            refine wpL_sk (bn (gn (wpL_rg ?_)))
            refine pM (.int _ _) ?_
            refine pBi ?_
            refine pA (.int _ _) ?_
            refine pE (gn ?_)
            cases hk; exact ⟨_, rfl, _, _, hO, St.hav _ ⟨rfl, rfl, rfl, rfl, rfl, rfl, rfl, rfl, trivial⟩⟩
        · replace hk := cf hb hk
          refine wpL_ex (ge (ge (be (bn (gn ?_)))))
          replace hk := lx hx2 hk
          refine wpL_rg ?_
          refine pBi ?_
          refine pM (.int _ _) ?_
          refine pE (gn ?_)
          cases hk; exact ⟨_, rfl, _, _, (Owns.pick hO [1] (by decide) rfl), St.hav _ ⟨rfl, rfl, rfl, rfl, rfl, trivial⟩⟩
  · replace hk := cf hb hk
    refine wpL_ex (ge (ge (be (gn ?_))))
    replace hk := lx hx1 hk
    refine wpL_sq (wpL_rg ?_)
    refine pM (.lit _ _ _) ?_
    refine pLen tS216 ?_
    refine pBi ?_
    refine pA (.bool _) ?_
    refine pE (gn (wpL_rt ?_))
    replace hk := Option.some.inj hk; subst hk; exact fin0 hO
/-- spec.l17meet -/
def f169_L2 (aB1 : List Int) (x1 : Int) (c2 : Int) : Int → Option (Int ⊕ (Int ⊕ Bool)) := fun s =>
  (bif decide (s < (aB1.length : Int)) then ((getI aB1 s).bind fun c4 => (bif (c2 == c4) then (((some true).map Sum.inr).map Sum.inr) else some (.inl (w64 (s + (1:Int)))))) else ((some (.inl (w64 (x1 + (1:Int))))).map Sum.inr))
def f169_L1 (aA0 : List Int) (aB1 : List Int) : Int → Option (Int ⊕ Bool) := fun s =>
  (bif decide (s < (aA0.length : Int)) then ((getI aA0 s).bind fun c2 => (loopO (f169_L2 aB1 s c2) ((0:Int)))) else ((some false).map Sum.inr))
def f169 (aA0 : List Int) (aB1 : List Int) : Option Bool :=
  (loopO (f169_L1 aA0 aB1) ((0:Int)))
theorem f169_run {aA0 : List Int} {aB1 : List Int} {r : Bool} {l1 l2 : Nat} {H : Heap} {lk : Lk} (hk : f169 aA0 aB1 = some r) (hlk : 0 < lk.length := by simp) : runL Try.prog hh 169 [.lit l1 aA0.length ((flatL 0) aA0), .lit l2 aB1.length ((flatL 0) aB1)] H lk = some (.bool r, H) := by
  refine run_start Try.func169 rfl Try.ntmps169 Try.results169 rfl rfl fun hO => ?_
  unfold f169 at hk
  refine wpL_sq (wpL_rg ?_)
  refine pA (.bool _) ?_
  refine pE (gn (wpL_sq (wpL_sq (wpL_rg ?_))))
  refine pM (.lit _ _ _) ?_
  refine pLen tS26 ?_
  refine pM (.int _ _) ?_
  refine pE (gn (wpL_bl ?_))
  refine wpL_loopO (F := f169_L1 aA0 aB1) (fun s S' => ∃ (J : Nat → V) (G : Heap), Owns H G [] ∧ S' = ⟨hav [(1, .lit l2 aB1.length ((flatL 0) aB1)), (9, .lit l1 aA0.length ((flatL 0) aA0)), (10, .int .i64 (aA0.length : Int)), (11, .int .i64 s)] J, G⟩) hk ⟨_, _, hO, St.hav _ ⟨rfl, rfl, rfl, rfl, trivial⟩⟩ ?_
  rintro x1 _ y1 ⟨J, G, hO, rfl⟩ hk hx1
  refine wpL_sq (wpL_rg ?_)
  refine pBi ?_
  refine pE (gn (wpL_sq ?_))
  refine wpL_cd (b := decide (x1 < (aA0.length : Int))) (fun hb => ?_) (fun hb => ?_)
  · replace hk := ct hb hk
    refine wpL_sk (gn (wpL_sq (wpL_bl (wpL_sq (wpL_rg ?_)))))
    obtain ⟨c2, hc2, hk⟩ := bs hk
    refine pX hc2 tE26 tZ3 ?_
    refine pLp (.int _ _) (rd1 (lm := 0) (off := 0) hc2 tA3) ?_
    refine pA (.int _ _) ?_
    refine pE (gn (wpL_sq (wpL_rg ?_)))
    refine pM (.lit _ _ _) ?_
    refine pLen tS26 ?_
    refine pM (.int _ _) ?_
    refine pE (gn (wpL_bl ?_))
    refine wpL_loopO (F := f169_L2 aB1 x1 c2) (fun s S' => ∃ (J : Nat → V) (G : Heap), Owns H G [] ∧ S' = ⟨hav [(1, .lit l2 aB1.length ((flatL 0) aB1)), (6, .int .i64 c2), (9, .lit l1 aA0.length ((flatL 0) aA0)), (10, .int .i64 (aA0.length : Int)), (11, .int .i64 x1), (15, .lit l2 aB1.length ((flatL 0) aB1)), (16, .int .i64 (aB1.length : Int)), (17, .int .i64 s)] J, G⟩) hk ⟨_, _, hO, St.hav _ ⟨rfl, rfl, rfl, rfl, rfl, rfl, rfl, rfl, trivial⟩⟩ ?_
    rintro x3 _ y2 ⟨J, G, hO, rfl⟩ hk hx2
    refine wpL_sq (wpL_rg ?_)
    refine pBi ?_
    refine pE (gn (wpL_sq ?_))
    refine wpL_cd (b := decide (x3 < (aB1.length : Int))) (fun hb => ?_) (fun hb => ?_)
    · replace hk := ct hb hk
      refine wpL_sk (gn (wpL_sq (wpL_bl (wpL_sq (wpL_rg ?_)))))
      obtain ⟨c4, hc4, hk⟩ := bs hk
      refine pX hc4 tE26 tZ3 ?_
      refine pLp (.int _ _) (rd1 (lm := 0) (off := 0) hc4 tA3) ?_
      refine pA (.int _ _) ?_
      refine pE (gn (wpL_sq (wpL_rg ?_)))
      refine pM (.int _ _) ?_
      refine pM (.int _ _) ?_
      refine pBi ?_
      refine pE (gn ?_)
      refine wpL_cd (b := (c2 == c4)) (fun hb => ?_) (fun hb => ?_)
      · replace hk := ct hb hk
        refine wpL_sq (wpL_rg ?_)
        refine pA (.bool _) ?_
        refine pE (gn (wpL_rt (br (gr (gr (br (br (gr (gr (br (gr ?_)))))))))))
        replace hk := lx hx2 hk
        replace hk := lx hx1 hk
        replace hk := Option.some.inj hk; subst hk; exact fin0 hO
      · replace hk := cf hb hk
        refine wpL_sk (bn (gn (wpL_rg ?_)))
        refine pBi ?_
        refine pM (.int _ _) ?_
        refine pE (gn ?_)
        cases hk; exact ⟨_, rfl, _, _, hO, St.hav _ ⟨rfl, rfl, rfl, rfl, rfl, rfl, rfl, rfl, trivial⟩⟩
    · replace hk := cf hb hk
      refine wpL_ex (ge (ge (be (bn (gn ?_)))))
      replace hk := lx hx2 hk
      refine wpL_rg ?_
      refine pBi ?_
      refine pM (.int _ _) ?_
      refine pE (gn ?_)
      cases hk; exact ⟨_, rfl, _, _, hO, St.hav _ ⟨rfl, rfl, rfl, rfl, trivial⟩⟩
  · replace hk := cf hb hk
    refine wpL_ex (ge (ge (be (gn ?_))))
    replace hk := lx hx1 hk
    refine wpL_sq (wpL_rg ?_)
    refine pA (.bool _) ?_
    refine pE (gn (wpL_rt ?_))
    replace hk := Option.some.inj hk; subst hk; exact fin0 hO
/-- spec.l17way -/
def f168_L2 (aP0 : Plan) (aW1 : Way) (x13 : Int) (c14 : Turn) : Int → Option (Int ⊕ (Int ⊕ Bool)) := fun s =>
  (bif decide (s < (aW1.Flanks.length : Int)) then ((getI aW1.Flanks s).bind fun c17 => (bif (c14.Switch == c17.Switch) then (((some false).map Sum.inr).map Sum.inr) else some (.inl (w64 (s + (1:Int)))))) else (((getI aP0.Switches c14.Switch).bind fun c19 => ((f169 ([c19] : List Int) aW1.Sections).bind fun v20 => (bif !v20 then ((some false).map Sum.inr) else some (.inl (w64 (x13 + (1:Int))))))).map Sum.inr))
def f168_L1 (aP0 : Plan) (aW1 : Way) : Int → Option (Int ⊕ Bool) := fun s =>
  (bif decide (s < (aW1.Lies.length : Int)) then ((getI aW1.Lies s).bind fun c14 => (loopO (f168_L2 aP0 aW1 s c14) ((0:Int)))) else (((f169 aW1.Over aW1.Sections).bind fun v21 => some (!v21)).map Sum.inr))
def f168 (aP0 : Plan) (aW1 : Way) : Option Bool :=
  ((bif ((aW1.Sections.length : Int) == (0:Int)) then some true else ((f267 aW1.Sections aP0.Sections).bind fun v4 => some (!v4))).bind fun t3 => ((bif t3 then some true else ((f267 aW1.Over aP0.Sections).bind fun v6 => some (!v6))).bind fun t5 => ((bif t5 then some true else ((f267 aW1.Near aP0.Sections).bind fun v8 => some (!v8))).bind fun t7 => ((bif t7 then some true else ((f268 aP0 aW1.Lies).bind fun v10 => some (!v10))).bind fun t9 => ((bif t9 then some true else ((f268 aP0 aW1.Flanks).bind fun v12 => some (!v12))).bind fun t11 => (bif t11 then some false else (loopO (f168_L1 aP0 aW1) ((0:Int)))))))))
theorem f168_run {aP0 : Plan} {aW1 : Way} {r : Bool} {l1 l2 m3 l4 m5 l6 l7 l8 l9 l10 : Nat} {H : Heap} {lk : Lk} (hk : f168 aP0 aW1 = some r) (hlk : 0 < lk.length := by simp) : runL Try.prog hh 168 [.agg [.int .i64 aP0.Sections, .lit l1 aP0.Switches.length ((flatL 0) aP0.Switches), .lit l2 aP0.Ways.length (flatL m3 aP0.Ways), .lit l4 aP0.Bars.length (flatL m5 aP0.Bars), .int .i64 aP0.Hold], .agg [.lit l6 aW1.Sections.length ((flatL 0) aW1.Sections), .lit l7 aW1.Lies.length ((flatL 0) aW1.Lies), .lit l8 aW1.Flanks.length ((flatL 0) aW1.Flanks), .lit l9 aW1.Over.length ((flatL 0) aW1.Over), .lit l10 aW1.Near.length ((flatL 0) aW1.Near)]] H lk = some (.bool r, H) := by
  refine run_start Try.func168 rfl Try.ntmps168 Try.results168 rfl rfl fun hO => ?_
  unfold f168 at hk
  refine wpL_sq (wpL_rg ?_)
  refine pBox (cs := [_, _, _, _, _]) hO tZ81 (fun b1 G hO => ?_)
  refine pBox (cs := [_, _, _, _, _]) hO tZ218 (fun b2 G hO => ?_)
  refine pA (.bool _) ?_
  refine pE (gn (wpL_sq (wpL_sq (wpL_rg ?_))))
  refine pF tF218_0 ?_
  refine pLo hO 0 (.lit _ _ _) tA26 ?_
  refine pLen tS26 ?_
  refine pBi ?_
  refine pM (.bool _) ?_
  obtain ⟨t3, ht, hk⟩ := bs hk
  refine wpR_mid (l1 := [_, _, _, _, _, _, _]) (fun S' => ∃ J, S' = ⟨hav [(2, .ptr b1 0), (3, .ptr b2 0), (20, .bool t3)] J, G⟩) ?_ ?_
  · refine bc (b := ((aW1.Sections.length : Int) == (0:Int))) (fun hg1 => ?_) (fun hg1 => ?_)
    · replace hk := ct hg1 ht
      refine pGn hg1 ?_
      refine pGn hg1 ?_
      refine pGn hg1 ?_
      refine pGn hg1 ?_
      refine pGn hg1 ?_
      refine pGn hg1 ?_
      refine pPt hg1 (.bool _) ?_
      cases hk; exact pE ⟨_, St.hav _ ⟨rfl, rfl, rfl, trivial⟩⟩
    · replace hk := cf hg1 ht
      refine pGy hg1 ?_
      refine pF tF218_0 ?_
      refine pGy hg1 ?_
      refine pLo hO 0 (.lit _ _ _) tA26 ?_
      refine pGy hg1 ?_
      refine pF tF81_0 ?_
      refine pGy hg1 ?_
      refine pLo hO 1 (.int _ _) tA3 ?_
      refine pGy hg1 ?_
      obtain ⟨v4, hv4, hk⟩ := bs hk
      refine pCall (fun _ => f267_run hv4) ?_
      refine pGy hg1 ?_
      refine pU ?_
      refine pPf hg1 (.bool _) ?_
      cases hk; exact pE ⟨_, St.hav _ ⟨rfl, rfl, rfl, trivial⟩⟩
  · rintro _ ⟨J, rfl⟩
    refine pM (.bool _) ?_
    obtain ⟨t5, ht, hk⟩ := bs hk
    refine wpR_mid (l1 := [_, _, _, _, _, _, _]) (fun S' => ∃ J, S' = ⟨hav [(2, .ptr b1 0), (3, .ptr b2 0), (28, .bool t5)] J, G⟩) ?_ ?_
    · refine bc (b := t3) (fun hg1 => ?_) (fun hg1 => ?_)
      · replace hk := ct hg1 ht
        refine pGn hg1 ?_
        refine pGn hg1 ?_
        refine pGn hg1 ?_
        refine pGn hg1 ?_
        refine pGn hg1 ?_
        refine pGn hg1 ?_
        refine pPt hg1 (.bool _) ?_
        cases hk; exact pE ⟨_, St.hav _ ⟨rfl, rfl, rfl, trivial⟩⟩
      · replace hk := cf hg1 ht
        refine pGy hg1 ?_
        refine pF tF218_3 ?_
        refine pGy hg1 ?_
        refine pLo hO 0 (.lit _ _ _) tA26 ?_
        refine pGy hg1 ?_
        refine pF tF81_0 ?_
        refine pGy hg1 ?_
        refine pLo hO 1 (.int _ _) tA3 ?_
        refine pGy hg1 ?_
        obtain ⟨v6, hv6, hk⟩ := bs hk
        refine pCall (fun _ => f267_run hv6) ?_
        refine pGy hg1 ?_
        refine pU ?_
        refine pPf hg1 (.bool _) ?_
        cases hk; exact pE ⟨_, St.hav _ ⟨rfl, rfl, rfl, trivial⟩⟩
    · rintro _ ⟨J, rfl⟩
      refine pM (.bool _) ?_
      obtain ⟨t7, ht, hk⟩ := bs hk
      refine wpR_mid (l1 := [_, _, _, _, _, _, _]) (fun S' => ∃ J, S' = ⟨hav [(2, .ptr b1 0), (3, .ptr b2 0), (36, .bool t7)] J, G⟩) ?_ ?_
      · refine bc (b := t5) (fun hg1 => ?_) (fun hg1 => ?_)
        · replace hk := ct hg1 ht
          refine pGn hg1 ?_
          refine pGn hg1 ?_
          refine pGn hg1 ?_
          refine pGn hg1 ?_
          refine pGn hg1 ?_
          refine pGn hg1 ?_
          refine pPt hg1 (.bool _) ?_
          cases hk; exact pE ⟨_, St.hav _ ⟨rfl, rfl, rfl, trivial⟩⟩
        · replace hk := cf hg1 ht
          refine pGy hg1 ?_
          refine pF tF218_4 ?_
          refine pGy hg1 ?_
          refine pLo hO 0 (.lit _ _ _) tA26 ?_
          refine pGy hg1 ?_
          refine pF tF81_0 ?_
          refine pGy hg1 ?_
          refine pLo hO 1 (.int _ _) tA3 ?_
          refine pGy hg1 ?_
          obtain ⟨v8, hv8, hk⟩ := bs hk
          refine pCall (fun _ => f267_run hv8) ?_
          refine pGy hg1 ?_
          refine pU ?_
          refine pPf hg1 (.bool _) ?_
          cases hk; exact pE ⟨_, St.hav _ ⟨rfl, rfl, rfl, trivial⟩⟩
      · rintro _ ⟨J, rfl⟩
        refine pM (.bool _) ?_
        obtain ⟨t9, ht, hk⟩ := bs hk
        refine wpR_mid (l1 := [_, _, _, _, _, _]) (fun S' => ∃ J, S' = ⟨hav [(2, .ptr b1 0), (3, .ptr b2 0), (43, .bool t9)] J, G⟩) ?_ ?_
        · refine bc (b := t7) (fun hg1 => ?_) (fun hg1 => ?_)
          · replace hk := ct hg1 ht
            refine pGn hg1 ?_
            refine pGn hg1 ?_
            refine pGn hg1 ?_
            refine pGn hg1 ?_
            refine pGn hg1 ?_
            refine pPt hg1 (.bool _) ?_
            cases hk; exact pE ⟨_, St.hav _ ⟨rfl, rfl, rfl, trivial⟩⟩
          · replace hk := cf hg1 ht
            refine pGy hg1 ?_
            refine pLs hO 1 [_, _, _, _, _] tA81 tZ81 ?_
            refine pGy hg1 ?_
            refine pF tF218_1 ?_
            refine pGy hg1 ?_
            refine pLo hO 0 (.lit _ _ _) tA216 ?_
            refine pGy hg1 ?_
            obtain ⟨v10, hv10, hk⟩ := bs hk
            refine pCall (fun _ => f268_run hv10) ?_
            refine pGy hg1 ?_
            refine pU ?_
            refine pPf hg1 (.bool _) ?_
            cases hk; exact pE ⟨_, St.hav _ ⟨rfl, rfl, rfl, trivial⟩⟩
        · rintro _ ⟨J, rfl⟩
          refine pM (.bool _) ?_
          obtain ⟨t11, ht, hk⟩ := bs hk
          refine wpR_mid (l1 := [_, _, _, _, _, _]) (fun S' => ∃ J, S' = ⟨hav [(2, .ptr b1 0), (3, .ptr b2 0), (50, .bool t11)] J, G⟩) ?_ ?_
          · refine bc (b := t9) (fun hg1 => ?_) (fun hg1 => ?_)
            · replace hk := ct hg1 ht
              refine pGn hg1 ?_
              refine pGn hg1 ?_
              refine pGn hg1 ?_
              refine pGn hg1 ?_
              refine pGn hg1 ?_
              refine pPt hg1 (.bool _) ?_
              cases hk; exact pE ⟨_, St.hav _ ⟨rfl, rfl, rfl, trivial⟩⟩
            · replace hk := cf hg1 ht
              refine pGy hg1 ?_
              refine pLs hO 1 [_, _, _, _, _] tA81 tZ81 ?_
              refine pGy hg1 ?_
              refine pF tF218_2 ?_
              refine pGy hg1 ?_
              refine pLo hO 0 (.lit _ _ _) tA216 ?_
              refine pGy hg1 ?_
              obtain ⟨v12, hv12, hk⟩ := bs hk
              refine pCall (fun _ => f268_run hv12) ?_
              refine pGy hg1 ?_
              refine pU ?_
              refine pPf hg1 (.bool _) ?_
              cases hk; exact pE ⟨_, St.hav _ ⟨rfl, rfl, rfl, trivial⟩⟩
          · rintro _ ⟨J, rfl⟩
            refine pE (gn ?_)
            refine wpL_cd (b := t11) (fun hb => ?_) (fun hb => ?_)
            · replace hk := ct hb hk
              refine wpL_sq (wpL_rg ?_)
              refine pA (.bool _) ?_
              refine pE (gn (wpL_rt (gr ?_)))
              replace hk := Option.some.inj hk; subst hk; exact fin0 hO
            · replace hk := cf hb hk
              refine wpL_sk (gn (wpL_sq (wpL_sq (wpL_rg ?_))))
              refine pF tF218_1 ?_
              refine pLo hO 0 (.lit _ _ _) tA216 ?_
              refine pLen tS216 ?_
              refine pM (.int _ _) ?_
              refine pE (gn (wpL_bl ?_))
              refine wpL_loopO (F := f168_L1 aP0 aW1) (fun s S' => ∃ (J : Nat → V) (G : Heap), Owns H G [.blk b2 (.cells 5 [.lit l6 aW1.Sections.length ((flatL 0) aW1.Sections), .lit l7 aW1.Lies.length ((flatL 0) aW1.Lies), .lit l8 aW1.Flanks.length ((flatL 0) aW1.Flanks), .lit l9 aW1.Over.length ((flatL 0) aW1.Over), .lit l10 aW1.Near.length ((flatL 0) aW1.Near)]), .blk b1 (.cells 5 [.int .i64 aP0.Sections, .lit l1 aP0.Switches.length ((flatL 0) aP0.Switches), .lit l2 aP0.Ways.length (flatL m3 aP0.Ways), .lit l4 aP0.Bars.length (flatL m5 aP0.Bars), .int .i64 aP0.Hold])] ∧ S' = ⟨hav [(2, .ptr b1 0), (3, .ptr b2 0), (52, .lit l7 aW1.Lies.length ((flatL 0) aW1.Lies)), (53, .int .i64 (aW1.Lies.length : Int)), (54, .int .i64 s)] J, G⟩) hk ⟨_, _, hO, St.hav _ ⟨rfl, rfl, rfl, rfl, rfl, trivial⟩⟩ ?_
              rintro x13 _ y1 ⟨J, G, hO, rfl⟩ hk hx1
              refine wpL_sq (wpL_rg ?_)
              refine pBi ?_
              refine pE (gn (wpL_sq ?_))
              refine wpL_cd (b := decide (x13 < (aW1.Lies.length : Int))) (fun hb => ?_) (fun hb => ?_)
              · replace hk := ct hb hk
                refine wpL_sk (gn (wpL_sq (wpL_bl (wpL_sq (wpL_rg ?_)))))
                obtain ⟨c14, hc14, hk⟩ := bs hk
                refine pX hc14 tE216 tZ307 ?_
                refine pLp (.agg [_, _]) (rd2 (lm := 0) (off := 0) hc14 tA307 tZ307) ?_
                refine pNew hO tZ307 t0307 (fun b15 G hO => ?_)
                refine pSt (xs := [_, _]) hO 0 tZ307 rfl (fun G hO => ?_)
                refine pE (gn (wpL_sq (wpL_sq (wpL_rg ?_))))
                refine pF tF218_2 ?_
                refine pLo hO 1 (.lit _ _ _) tA216 ?_
                refine pLen tS216 ?_
                refine pM (.int _ _) ?_
                refine pE (gn (wpL_bl ?_))
                refine wpL_loopO (F := f168_L2 aP0 aW1 x13 c14) (fun s S' => ∃ (J : Nat → V) (G : Heap), Owns H G [.blk b15 (.cells 2 [.int .i64 c14.Switch, .int .i64 c14.Lie]), .blk b2 (.cells 5 [.lit l6 aW1.Sections.length ((flatL 0) aW1.Sections), .lit l7 aW1.Lies.length ((flatL 0) aW1.Lies), .lit l8 aW1.Flanks.length ((flatL 0) aW1.Flanks), .lit l9 aW1.Over.length ((flatL 0) aW1.Over), .lit l10 aW1.Near.length ((flatL 0) aW1.Near)]), .blk b1 (.cells 5 [.int .i64 aP0.Sections, .lit l1 aP0.Switches.length ((flatL 0) aP0.Switches), .lit l2 aP0.Ways.length (flatL m3 aP0.Ways), .lit l4 aP0.Bars.length (flatL m5 aP0.Bars), .int .i64 aP0.Hold])] ∧ S' = ⟨hav [(2, .ptr b1 0), (3, .ptr b2 0), (6, .ptr b15 0), (52, .lit l7 aW1.Lies.length ((flatL 0) aW1.Lies)), (53, .int .i64 (aW1.Lies.length : Int)), (54, .int .i64 x13), (59, .lit l8 aW1.Flanks.length ((flatL 0) aW1.Flanks)), (60, .int .i64 (aW1.Flanks.length : Int)), (61, .int .i64 s)] J, G⟩) hk ⟨_, _, hO, St.hav _ ⟨rfl, rfl, rfl, rfl, rfl, rfl, rfl, rfl, rfl, trivial⟩⟩ ?_
                rintro x16 _ y2 ⟨J, G, hO, rfl⟩ hk hx2
                refine wpL_sq (wpL_rg ?_)
                refine pBi ?_
                refine pE (gn (wpL_sq ?_))
                refine wpL_cd (b := decide (x16 < (aW1.Flanks.length : Int))) (fun hb => ?_) (fun hb => ?_)
                · replace hk := ct hb hk
                  refine wpL_sk (gn (wpL_sq (wpL_bl (wpL_sq (wpL_rg ?_)))))
                  obtain ⟨c17, hc17, hk⟩ := bs hk
                  refine pX hc17 tE216 tZ307 ?_
                  refine pLp (.agg [_, _]) (rd2 (lm := 0) (off := 0) hc17 tA307 tZ307) ?_
                  refine pNew hO tZ307 t0307 (fun b18 G hO => ?_)
                  refine pSt (xs := [_, _]) hO 0 tZ307 rfl (fun G hO => ?_)
                  refine pE (gn (wpL_sq (wpL_rg ?_)))
                  refine pF tF307_0 ?_
                  refine pLo hO 1 (.int _ _) tA3 ?_
                  refine pF tF307_0 ?_
                  refine pLo hO 0 (.int _ _) tA3 ?_
                  refine pBi ?_
                  refine pE (gn ?_)
                  refine wpL_cd (b := (c14.Switch == c17.Switch)) (fun hb => ?_) (fun hb => ?_)
                  · replace hk := ct hb hk
                    refine wpL_sq (wpL_rg ?_)
                    refine pA (.bool _) ?_
                    refine pE (gn (wpL_rt (br (gr (gr (br (gr (br (gr (gr (br (gr ?_))))))))))))
                    replace hk := lx hx2 hk
                    replace hk := lx hx1 hk
                    replace hk := Option.some.inj hk; subst hk; exact fin0 hO
                  · replace hk := cf hb hk
                    refine wpL_sk (bn (gn (wpL_rg ?_)))
                    refine pBi ?_
                    refine pM (.int _ _) ?_
                    refine pE (gn ?_)
                    cases hk; exact ⟨_, rfl, _, _, (Owns.pick hO [1, 2, 3] (by decide) rfl), St.hav _ ⟨rfl, rfl, rfl, rfl, rfl, rfl, rfl, rfl, rfl, trivial⟩⟩
                · replace hk := cf hb hk
                  refine wpL_ex (ge (ge (be (gn ?_))))
                  replace hk := lx hx2 hk
                  refine wpL_sq ?_
                  refine wpL_drw [(0, true), (1, true), (2, true), (3, true), (4, true), (5, true), (6, true), (7, true), (8, true), (9, false), (10, false)] [_, _, _, _, _, _, _, _, _, _, _] (by decide +kernel) (by rfl) ?_
                  refine pF tF81_1 ?_
                  refine pLo hO 2 (.lit _ _ _) tA26 ?_
                  refine pF tF307_0 ?_
                  refine pLo hO 0 (.int _ _) tA3 ?_
                  obtain ⟨c19, hc19, hk⟩ := bs hk
                  refine pX hc19 tE26 tZ3 ?_
                  refine pLp (.int _ _) (rd1 (lm := 0) (off := 0) hc19 tA3) ?_
                  refine pBs (ps := [(0, (.int _ _))]) ([c19] : List Int) tE26 tZ3 t03 (emb_cons (embx_int _ _) (emb_nil)) ?_
                  refine pF tF218_0 ?_
                  refine pLo hO 1 (.lit _ _ _) tA26 ?_
                  obtain ⟨v20, hv20, hk⟩ := bs hk
                  refine pCall (vs := [(.tl 1 ((flatL 0) ([c19] : List Int))), (.lit _ _ _)]) (caps := []) (fun _ => f169_run hv20) ?_ (h3 := (la_cons (ld_tl ([c19] : List Int) 6) (la_cons rfl la_nil)))
                  refine pU ?_
                  refine pE (gn ?_)
                  refine wpL_cd (b := !v20) (fun hb => ?_) (fun hb => ?_)
                  · replace hk := ct hb hk
                    refine wpL_sq (wpL_rg ?_)
                    refine pA (.bool _) ?_
                    refine pE (gn (wpL_rt (br (gr (gr (br (gr ?_)))))))
                    replace hk := lx hx1 hk
                    replace hk := Option.some.inj hk; subst hk; exact fin0 hO
                  · replace hk := cf hb hk
                    refine wpL_sk (bn (gn (wpL_rg ?_)))
                    refine pBi ?_
                    refine pM (.int _ _) ?_
                    refine pE (gn ?_)
                    cases hk; exact ⟨_, rfl, _, _, (Owns.pick hO [1, 2] (by decide) rfl), St.hav _ ⟨rfl, rfl, rfl, rfl, rfl, trivial⟩⟩
              · replace hk := cf hb hk
                refine wpL_ex (ge (ge (be (gn ?_))))
                replace hk := lx hx1 hk
                refine wpL_sq (wpL_rg ?_)
                refine pF tF218_3 ?_
                refine pLo hO 0 (.lit _ _ _) tA26 ?_
                refine pF tF218_0 ?_
                refine pLo hO 0 (.lit _ _ _) tA26 ?_
                obtain ⟨v21, hv21, hk⟩ := bs hk
                refine pCall (fun _ => f169_run hv21) ?_
                refine pU ?_
                refine pA (.bool _) ?_
                refine pE (gn (wpL_rt ?_))
                replace hk := Option.some.inj hk; subst hk; exact fin0 hO
/-- spec.PlanOk -/
def f52_L5 (aP0 : Plan) (x15 : Int) (c16 : List Bool) : Int → Option (Int ⊕ (Int ⊕ Fault)) := fun s =>
  (bif decide (s < (c16.length : Int)) then ((getI c16 s).bind fun c18 => ((getI aP0.Bars s).bind fun c19 => ((getI c19 x15).bind fun c20 => ((bif !(c18 == c20) then some true else ((bif ((x15 != s) && !c18) then ((getI aP0.Ways x15).bind fun c23 => ((getI aP0.Ways s).bind fun c24 => ((f169 c23.Sections c24.Sections).bind fun v25 => some v25))) else some false).bind fun t22 => some t22)).bind fun t21 => (bif t21 then (((some ({ Code := (5:Int), At := x15 } : Fault)).map Sum.inr).map Sum.inr) else some (.inl (w64 (s + (1:Int))))))))) else ((some (.inl (w64 (x15 + (1:Int))))).map Sum.inr))
def f52_L4 (aP0 : Plan) : Int → Option (Int ⊕ Fault) := fun s =>
  (bif decide (s < (aP0.Bars.length : Int)) then ((getI aP0.Bars s).bind fun c16 => (loopO (f52_L5 aP0 s c16) ((0:Int)))) else ((some ({ Code := 0, At := 0 } : Fault)).map Sum.inr))
def f52_L3 (aP0 : Plan) : Int → Option (Int ⊕ Fault) := fun s =>
  (bif decide (s < (aP0.Bars.length : Int)) then ((getI aP0.Bars s).bind fun c14 => (bif ((c14.length : Int) != (aP0.Ways.length : Int)) then ((some ({ Code := (4:Int), At := s } : Fault)).map Sum.inr) else some (.inl (w64 (s + (1:Int)))))) else ((loopO (f52_L4 aP0) ((0:Int))).map Sum.inr))
def f52_L2 (aP0 : Plan) : Int → Option (Int ⊕ Fault) := fun s =>
  (bif decide (s < (aP0.Ways.length : Int)) then ((getI aP0.Ways s).bind fun c10 => ((f168 aP0 c10).bind fun v12 => (bif !v12 then ((some ({ Code := (3:Int), At := s } : Fault)).map Sum.inr) else some (.inl (w64 (s + (1:Int))))))) else ((bif ((aP0.Bars.length : Int) != (aP0.Ways.length : Int)) then some ({ Code := (4:Int), At := 0 } : Fault) else (loopO (f52_L3 aP0) ((0:Int)))).map Sum.inr))
def f52_L1 (aP0 : Plan) : Int → Option (Int ⊕ Fault) := fun s =>
  (bif decide (s < (aP0.Switches.length : Int)) then ((getI aP0.Switches s).bind fun c7 => ((f167 c7 (0:Int) (w64 (aP0.Sections - (1:Int)))).bind fun v8 => (bif !v8 then ((some ({ Code := (2:Int), At := s } : Fault)).map Sum.inr) else some (.inl (w64 (s + (1:Int))))))) else ((loopO (f52_L2 aP0) ((0:Int))).map Sum.inr))
def f52 (aP0 : Plan) : Option Fault :=
  ((f167 aP0.Sections (1:Int) (60:Int)).bind fun v3 => ((bif ((!v3 || decide ((aP0.Switches.length : Int) > (40:Int))) || decide ((aP0.Ways.length : Int) > (100:Int))) then some true else ((f167 aP0.Hold (1:Int) (300:Int)).bind fun v5 => some (!v5))).bind fun t4 => (bif t4 then some ({ Code := (1:Int), At := 0 } : Fault) else (loopO (f52_L1 aP0) ((0:Int))))))
theorem f52_run {aP0 : Plan} {r : Fault} {l1 l2 m3 l4 m5 : Nat} {H : Heap} {lk : Lk} (hk : f52 aP0 = some r) (hlk : 0 < lk.length := by simp) : runL Try.prog hh 52 [.agg [.int .i64 aP0.Sections, .lit l1 aP0.Switches.length ((flatL 0) aP0.Switches), .lit l2 aP0.Ways.length (flatL m3 aP0.Ways), .lit l4 aP0.Bars.length (flatL m5 aP0.Bars), .int .i64 aP0.Hold]] H lk = some (.agg [.int .i64 r.Code, .int .i64 r.At], H) := by
  refine run_start Try.func52 rfl Try.ntmps52 Try.results52 rfl rfl fun hO => ?_
  unfold f52 at hk
  refine wpL_sq (wpL_rg ?_)
  refine pBox (cs := [_, _, _, _, _]) hO tZ81 (fun b1 G hO => ?_)
  refine pNew hO tZ77 t077 (fun b2 G hO => ?_)
  refine pE (gn (wpL_sq (wpL_sq (wpL_rg ?_))))
  refine pF tF81_0 ?_
  refine pLo hO 1 (.int _ _) tA3 ?_
  obtain ⟨v3, hv3, hk⟩ := bs hk
  refine pCall (fun _ => f167_run hv3) ?_
  refine pU ?_
  refine pM (.bool _) ?_
  refine wpR_mid (l1 := [_, _, _, _, _]) (fun S' => ∃ J, S' = ⟨hav [(1, .ptr b1 0), (2, .ptr b2 0), (22, .bool (!v3 || decide ((aP0.Switches.length : Int) > (40:Int))))] J, G⟩) ?_ ?_
  · refine bc (b := !v3) (fun hg1 => ?_) (fun hg1 => ?_)
    · refine pGn hg1 ?_
      refine pGn hg1 ?_
      refine pGn hg1 ?_
      refine pGn hg1 ?_
      refine pPt hg1 (.bool _) ?_
      exact pE ⟨_, St.hav _ ⟨rfl, rfl, by rw [hg1]; rfl, trivial⟩⟩
    · refine pGy hg1 ?_
      refine pF tF81_1 ?_
      refine pGy hg1 ?_
      refine pLo hO 1 (.lit _ _ _) tA26 ?_
      refine pGy hg1 ?_
      refine pLen tS26 ?_
      refine pGy hg1 ?_
      refine pBi ?_
      refine pPf hg1 (.bool _) ?_
      exact pE ⟨_, St.hav _ ⟨rfl, rfl, by rw [hg1]; rfl, trivial⟩⟩
  · rintro _ ⟨J, rfl⟩
    refine pM (.bool _) ?_
    refine wpR_mid (l1 := [_, _, _, _, _]) (fun S' => ∃ J, S' = ⟨hav [(1, .ptr b1 0), (2, .ptr b2 0), (28, .bool ((!v3 || decide ((aP0.Switches.length : Int) > (40:Int))) || decide ((aP0.Ways.length : Int) > (100:Int))))] J, G⟩) ?_ ?_
    · refine bc (b := (!v3 || decide ((aP0.Switches.length : Int) > (40:Int)))) (fun hg1 => ?_) (fun hg1 => ?_)
      · refine pGn hg1 ?_
        refine pGn hg1 ?_
        refine pGn hg1 ?_
        refine pGn hg1 ?_
        refine pPt hg1 (.bool _) ?_
        exact pE ⟨_, St.hav _ ⟨rfl, rfl, by rw [hg1]; rfl, trivial⟩⟩
      · refine pGy hg1 ?_
        refine pF tF81_2 ?_
        refine pGy hg1 ?_
        refine pLo hO 1 (.lit _ _ _) tA79 ?_
        refine pGy hg1 ?_
        refine pLen tS79 ?_
        refine pGy hg1 ?_
        refine pBi ?_
        refine pPf hg1 (.bool _) ?_
        exact pE ⟨_, St.hav _ ⟨rfl, rfl, by rw [hg1]; rfl, trivial⟩⟩
    · rintro _ ⟨J, rfl⟩
      refine pM (.bool _) ?_
      obtain ⟨t4, ht, hk⟩ := bs hk
      refine wpR_mid (l1 := [_, _, _, _, _]) (fun S' => ∃ J, S' = ⟨hav [(1, .ptr b1 0), (2, .ptr b2 0), (34, .bool t4)] J, G⟩) ?_ ?_
      · refine bc (b := ((!v3 || decide ((aP0.Switches.length : Int) > (40:Int))) || decide ((aP0.Ways.length : Int) > (100:Int)))) (fun hg1 => ?_) (fun hg1 => ?_)
        · replace hk := ct hg1 ht
          refine pGn hg1 ?_
          refine pGn hg1 ?_
          refine pGn hg1 ?_
          refine pGn hg1 ?_
          refine pPt hg1 (.bool _) ?_
          cases hk; exact pE ⟨_, St.hav _ ⟨rfl, rfl, rfl, trivial⟩⟩
        · replace hk := cf hg1 ht
          refine pGy hg1 ?_
          refine pF tF81_4 ?_
          refine pGy hg1 ?_
          refine pLo hO 1 (.int _ _) tA3 ?_
          refine pGy hg1 ?_
          obtain ⟨v5, hv5, hk⟩ := bs hk
          refine pCall (fun _ => f167_run hv5) ?_
          refine pGy hg1 ?_
          refine pU ?_
          refine pPf hg1 (.bool _) ?_
          cases hk; exact pE ⟨_, St.hav _ ⟨rfl, rfl, rfl, trivial⟩⟩
      · rintro _ ⟨J, rfl⟩
        refine pE (gn ?_)
        refine wpL_cd (b := t4) (fun hb => ?_) (fun hb => ?_)
        · replace hk := ct hb hk
          refine wpL_sq (wpL_rg ?_)
          refine pBd [_, _] t077 tP77 ?_
          refine pSt (xs := [_, _]) hO 0 tZ77 rfl (fun G hO => ?_)
          refine pE (gn (wpL_rt (gr ?_)))
          replace hk := Option.some.inj hk; subst hk; exact finZ hO (fz_agg (n := 2) (fz_c (fz_int _ _) (fz_c (fz_int _ _) (fz_n)))) (resS hO 0 [_, _] tA77 tZ77 resN)
        · replace hk := cf hb hk
          refine wpL_sk (gn (wpL_sq (wpL_sq (wpL_rg ?_))))
          refine pF tF81_1 ?_
          refine pLo hO 1 (.lit _ _ _) tA26 ?_
          refine pLen tS26 ?_
          refine pM (.int _ _) ?_
          refine pE (gn (wpL_bl ?_))
          refine wpL_loopO (F := f52_L1 aP0) (fun s S' => ∃ (J : Nat → V) (G : Heap), Owns H G [.blk b2 (.cells 2 [.int .i64 0, .int .i64 0]), .blk b1 (.cells 5 [.int .i64 aP0.Sections, .lit l1 aP0.Switches.length ((flatL 0) aP0.Switches), .lit l2 aP0.Ways.length (flatL m3 aP0.Ways), .lit l4 aP0.Bars.length (flatL m5 aP0.Bars), .int .i64 aP0.Hold])] ∧ S' = ⟨hav [(1, .ptr b1 0), (2, .ptr b2 0), (37, .lit l1 aP0.Switches.length ((flatL 0) aP0.Switches)), (38, .int .i64 (aP0.Switches.length : Int)), (39, .int .i64 s)] J, G⟩) hk ⟨_, _, hO, St.hav _ ⟨rfl, rfl, rfl, rfl, rfl, trivial⟩⟩ ?_
          rintro x6 _ y1 ⟨J, G, hO, rfl⟩ hk hx1
          refine wpL_sq (wpL_rg ?_)
          refine pBi ?_
          refine pE (gn (wpL_sq ?_))
          refine wpL_cd (b := decide (x6 < (aP0.Switches.length : Int))) (fun hb => ?_) (fun hb => ?_)
          · replace hk := ct hb hk
            refine wpL_sk (gn (wpL_sq (wpL_bl (wpL_sq (wpL_rg ?_)))))
            refine pM (.int _ _) ?_
            obtain ⟨c7, hc7, hk⟩ := bs hk
            refine pX hc7 tE26 tZ3 ?_
            refine pLp (.int _ _) (rd1 (lm := 0) (off := 0) hc7 tA3) ?_
            refine pA (.int _ _) ?_
            refine pA (.int _ _) ?_
            refine pE (gn (wpL_sq (wpL_rg ?_)))
            refine pM (.int _ _) ?_
            refine pF tF81_0 ?_
            refine pLo hO 1 (.int _ _) tA3 ?_
            refine pBi ?_
            obtain ⟨v8, hv8, hk⟩ := bs hk
            refine pCall (fun _ => f167_run hv8) ?_
            refine pU ?_
            refine pE (gn ?_)
            refine wpL_cd (b := !v8) (fun hb => ?_) (fun hb => ?_)
            · replace hk := ct hb hk
              refine wpL_sq (wpL_rg ?_)
              refine pM (.int _ _) ?_
              refine pBd [_, _] t077 tP77 ?_
              refine pSt (xs := [_, _]) hO 0 tZ77 rfl (fun G hO => ?_)
              refine pE (gn (wpL_rt (br (gr (gr (br (gr ?_)))))))
              replace hk := lx hx1 hk
              replace hk := Option.some.inj hk; subst hk; exact finZ hO (fz_agg (n := 2) (fz_c (fz_int _ _) (fz_c (fz_int _ _) (fz_n)))) (resS hO 0 [_, _] tA77 tZ77 resN)
            · replace hk := cf hb hk
              refine wpL_sk (bn (gn (wpL_rg ?_)))
              refine pBi ?_
              refine pM (.int _ _) ?_
              refine pE (gn ?_)
              cases hk; exact ⟨_, rfl, _, _, hO, St.hav _ ⟨rfl, rfl, rfl, rfl, rfl, trivial⟩⟩
          · replace hk := cf hb hk
            refine wpL_ex (ge (ge (be (gn ?_))))
            replace hk := lx hx1 hk
            refine wpL_sq (wpL_sq (wpL_rg ?_))
            refine pF tF81_2 ?_
            refine pLo hO 1 (.lit _ _ _) tA79 ?_
            refine pLen tS79 ?_
            refine pM (.int _ _) ?_
            refine pE (gn (wpL_bl ?_))
            refine wpL_loopO (F := f52_L2 aP0) (fun s S' => ∃ (J : Nat → V) (G : Heap), Owns H G [.blk b2 (.cells 2 [.int .i64 0, .int .i64 0]), .blk b1 (.cells 5 [.int .i64 aP0.Sections, .lit l1 aP0.Switches.length ((flatL 0) aP0.Switches), .lit l2 aP0.Ways.length (flatL m3 aP0.Ways), .lit l4 aP0.Bars.length (flatL m5 aP0.Bars), .int .i64 aP0.Hold])] ∧ S' = ⟨hav [(1, .ptr b1 0), (2, .ptr b2 0), (54, .lit l2 aP0.Ways.length (flatL m3 aP0.Ways)), (55, .int .i64 (aP0.Ways.length : Int)), (56, .int .i64 s)] J, G⟩) hk ⟨_, _, hO, St.hav _ ⟨rfl, rfl, rfl, rfl, rfl, trivial⟩⟩ ?_
            rintro x9 _ y1 ⟨J, G, hO, rfl⟩ hk hx1
            refine wpL_sq (wpL_rg ?_)
            refine pBi ?_
            refine pE (gn (wpL_sq ?_))
            refine wpL_cd (b := decide (x9 < (aP0.Ways.length : Int))) (fun hb => ?_) (fun hb => ?_)
            · replace hk := ct hb hk
              refine wpL_sk (gn (wpL_sq (wpL_bl (wpL_sq (wpL_rg ?_)))))
              refine pM (.int _ _) ?_
              obtain ⟨c10, hc10, hk⟩ := bs hk
              refine pX hc10 tE79 tZ218 ?_
              refine pLp (.agg [_, _, _, _, _]) (rd2 (lm := m3) (off := 0) hc10 tA218 tZ218) ?_
              refine pNew hO tZ218 t0218 (fun b11 G hO => ?_)
              refine pA (.int _ _) ?_
              refine pSt (xs := [_, _, _, _, _]) hO 0 tZ218 rfl (fun G hO => ?_)
              refine pE (gn (wpL_sq (wpL_rg ?_)))
              refine pLs hO 2 [_, _, _, _, _] tA81 tZ81 ?_
              refine pLs hO 0 [_, _, _, _, _] tA218 tZ218 ?_
              obtain ⟨v12, hv12, hk⟩ := bs hk
              refine pCall (fun _ => f168_run hv12) ?_
              refine pU ?_
              refine pE (gn ?_)
              refine wpL_cd (b := !v12) (fun hb => ?_) (fun hb => ?_)
              · replace hk := ct hb hk
                refine wpL_sq (wpL_rg ?_)
                refine pM (.int _ _) ?_
                refine pBd [_, _] t077 tP77 ?_
                refine pSt (xs := [_, _]) hO 1 tZ77 rfl (fun G hO => ?_)
                refine pE (gn (wpL_rt (br (gr (gr (br (gr ?_)))))))
                replace hk := lx hx1 hk
                replace hk := Option.some.inj hk; subst hk; exact finZ hO (fz_agg (n := 2) (fz_c (fz_int _ _) (fz_c (fz_int _ _) (fz_n)))) (resS hO 1 [_, _] tA77 tZ77 resN)
              · replace hk := cf hb hk
                refine wpL_sk (bn (gn (wpL_rg ?_)))
                refine pBi ?_
                refine pM (.int _ _) ?_
                refine pE (gn ?_)
                cases hk; exact ⟨_, rfl, _, _, (Owns.pick hO [1, 2] (by decide) rfl), St.hav _ ⟨rfl, rfl, rfl, rfl, rfl, trivial⟩⟩
            · replace hk := cf hb hk
              refine wpL_ex (ge (ge (be (gn ?_))))
              replace hk := lx hx1 hk
              refine wpL_sq (wpL_sq (wpL_rg ?_))
              refine pF tF81_3 ?_
              refine pLo hO 1 (.lit _ _ _) tA45 ?_
              refine pLen tS45 ?_
              refine pF tF81_2 ?_
              refine pLo hO 1 (.lit _ _ _) tA79 ?_
              refine pLen tS79 ?_
              refine pBi ?_
              refine pE (gn ?_)
              refine wpL_cd (b := ((aP0.Bars.length : Int) != (aP0.Ways.length : Int))) (fun hb => ?_) (fun hb => ?_)
              · replace hk := ct hb hk
                refine wpL_sq (wpL_rg ?_)
                refine pBd [_, _] t077 tP77 ?_
                refine pSt (xs := [_, _]) hO 0 tZ77 rfl (fun G hO => ?_)
                refine pE (gn (wpL_rt (gr ?_)))
                replace hk := Option.some.inj hk; subst hk; exact finZ hO (fz_agg (n := 2) (fz_c (fz_int _ _) (fz_c (fz_int _ _) (fz_n)))) (resS hO 0 [_, _] tA77 tZ77 resN)
              · replace hk := cf hb hk
                refine wpL_sk (gn (wpL_sq (wpL_sq (wpL_rg ?_))))
                refine pF tF81_3 ?_
                refine pLo hO 1 (.lit _ _ _) tA45 ?_
                refine pLen tS45 ?_
                refine pM (.int _ _) ?_
                refine pE (gn (wpL_bl ?_))
                refine wpL_loopO (F := f52_L3 aP0) (fun s S' => ∃ (J : Nat → V) (G : Heap), Owns H G [.blk b2 (.cells 2 [.int .i64 0, .int .i64 0]), .blk b1 (.cells 5 [.int .i64 aP0.Sections, .lit l1 aP0.Switches.length ((flatL 0) aP0.Switches), .lit l2 aP0.Ways.length (flatL m3 aP0.Ways), .lit l4 aP0.Bars.length (flatL m5 aP0.Bars), .int .i64 aP0.Hold])] ∧ S' = ⟨hav [(1, .ptr b1 0), (2, .ptr b2 0), (77, .lit l4 aP0.Bars.length (flatL m5 aP0.Bars)), (78, .int .i64 (aP0.Bars.length : Int)), (79, .int .i64 s)] J, G⟩) hk ⟨_, _, hO, St.hav _ ⟨rfl, rfl, rfl, rfl, rfl, trivial⟩⟩ ?_
                rintro x13 _ y1 ⟨J, G, hO, rfl⟩ hk hx1
                refine wpL_sq (wpL_rg ?_)
                refine pBi ?_
                refine pE (gn (wpL_sq ?_))
                refine wpL_cd (b := decide (x13 < (aP0.Bars.length : Int))) (fun hb => ?_) (fun hb => ?_)
                · replace hk := ct hb hk
                  refine wpL_sk (gn (wpL_sq (wpL_bl (wpL_sq (wpL_rg ?_)))))
                  refine pM (.int _ _) ?_
                  obtain ⟨c14, hc14, hk⟩ := bs hk
                  refine pX hc14 tE45 tZ38 ?_
                  refine pLp (.lit _ _ _) (rd1 (lm := m5) (off := 0) hc14 tA38) ?_
                  refine pA (.int _ _) ?_
                  refine pA (.lit _ _ _) ?_
                  refine pE (gn (wpL_sq (wpL_rg ?_)))
                  refine pM (.lit _ _ _) ?_
                  refine pLen tS38 ?_
                  refine pF tF81_2 ?_
                  refine pLo hO 1 (.lit _ _ _) tA79 ?_
                  refine pLen tS79 ?_
                  refine pBi ?_
                  refine pE (gn ?_)
                  refine wpL_cd (b := ((c14.length : Int) != (aP0.Ways.length : Int))) (fun hb => ?_) (fun hb => ?_)
                  · replace hk := ct hb hk
                    refine wpL_sq (wpL_rg ?_)
                    refine pM (.int _ _) ?_
                    refine pBd [_, _] t077 tP77 ?_
                    refine pSt (xs := [_, _]) hO 0 tZ77 rfl (fun G hO => ?_)
                    refine pE (gn (wpL_rt (br (gr (gr (br (gr ?_)))))))
                    replace hk := lx hx1 hk
                    replace hk := Option.some.inj hk; subst hk; exact finZ hO (fz_agg (n := 2) (fz_c (fz_int _ _) (fz_c (fz_int _ _) (fz_n)))) (resS hO 0 [_, _] tA77 tZ77 resN)
                  · replace hk := cf hb hk
                    refine wpL_sk (bn (gn (wpL_rg ?_)))
                    refine pBi ?_
                    refine pM (.int _ _) ?_
                    refine pE (gn ?_)
                    cases hk; exact ⟨_, rfl, _, _, hO, St.hav _ ⟨rfl, rfl, rfl, rfl, rfl, trivial⟩⟩
                · replace hk := cf hb hk
                  refine wpL_ex (ge (ge (be (gn ?_))))
                  replace hk := lx hx1 hk
                  refine wpL_sq (wpL_sq (wpL_rg ?_))
                  refine pF tF81_3 ?_
                  refine pLo hO 1 (.lit _ _ _) tA45 ?_
                  refine pLen tS45 ?_
                  refine pM (.int _ _) ?_
                  refine pE (gn (wpL_bl ?_))
                  refine wpL_loopO (F := f52_L4 aP0) (fun s S' => ∃ (J : Nat → V) (G : Heap), Owns H G [.blk b2 (.cells 2 [.int .i64 0, .int .i64 0]), .blk b1 (.cells 5 [.int .i64 aP0.Sections, .lit l1 aP0.Switches.length ((flatL 0) aP0.Switches), .lit l2 aP0.Ways.length (flatL m3 aP0.Ways), .lit l4 aP0.Bars.length (flatL m5 aP0.Bars), .int .i64 aP0.Hold])] ∧ S' = ⟨hav [(1, .ptr b1 0), (2, .ptr b2 0), (94, .lit l4 aP0.Bars.length (flatL m5 aP0.Bars)), (95, .int .i64 (aP0.Bars.length : Int)), (96, .int .i64 s)] J, G⟩) hk ⟨_, _, hO, St.hav _ ⟨rfl, rfl, rfl, rfl, rfl, trivial⟩⟩ ?_
                  rintro x15 _ y1 ⟨J, G, hO, rfl⟩ hk hx1
                  refine wpL_sq (wpL_rg ?_)
                  refine pBi ?_
                  refine pE (gn (wpL_sq ?_))
                  refine wpL_cd (b := decide (x15 < (aP0.Bars.length : Int))) (fun hb => ?_) (fun hb => ?_)
                  · replace hk := ct hb hk
                    refine wpL_sk (gn (wpL_sq (wpL_bl (wpL_sq (wpL_rg ?_)))))
                    refine pM (.int _ _) ?_
                    obtain ⟨c16, hc16, hk⟩ := bs hk
                    refine pX hc16 tE45 tZ38 ?_
                    refine pLp (.lit _ _ _) (rd1 (lm := m5) (off := 0) hc16 tA38) ?_
                    refine pA (.int _ _) ?_
                    refine pA (.lit _ _ _) ?_
                    refine pE (gn (wpL_sq (wpL_rg ?_)))
                    refine pM (.lit _ _ _) ?_
                    refine pLen tS38 ?_
                    refine pM (.int _ _) ?_
                    refine pE (gn (wpL_bl ?_))
                    refine wpL_loopO (F := f52_L5 aP0 x15 c16) (fun s S' => ∃ (J : Nat → V) (G : Heap), Owns H G [.blk b2 (.cells 2 [.int .i64 0, .int .i64 0]), .blk b1 (.cells 5 [.int .i64 aP0.Sections, .lit l1 aP0.Switches.length ((flatL 0) aP0.Switches), .lit l2 aP0.Ways.length (flatL m3 aP0.Ways), .lit l4 aP0.Bars.length (flatL m5 aP0.Bars), .int .i64 aP0.Hold])] ∧ S' = ⟨hav [(1, .ptr b1 0), (2, .ptr b2 0), (9, .int .i64 x15), (94, .lit l4 aP0.Bars.length (flatL m5 aP0.Bars)), (95, .int .i64 (aP0.Bars.length : Int)), (96, .int .i64 x15), (101, .lit m5 c16.length ((flatL 0) c16)), (102, .int .i64 (c16.length : Int)), (103, .int .i64 s)] J, G⟩) hk ⟨_, _, hO, St.hav _ ⟨rfl, rfl, rfl, rfl, rfl, rfl, rfl, rfl, rfl, trivial⟩⟩ ?_
                    rintro x17 _ y2 ⟨J, G, hO, rfl⟩ hk hx2
                    refine wpL_sq (wpL_rg ?_)
                    refine pBi ?_
                    refine pE (gn (wpL_sq ?_))
                    refine wpL_cd (b := decide (x17 < (c16.length : Int))) (fun hb => ?_) (fun hb => ?_)
                    · replace hk := ct hb hk
                      refine wpL_sk (gn (wpL_sq (wpL_bl (wpL_sq (wpL_rg ?_)))))
                      refine pM (.int _ _) ?_
                      obtain ⟨c18, hc18, hk⟩ := bs hk
                      refine pX hc18 tE38 tZ4 ?_
                      refine pLp (.bool _) (rd1 (lm := 0) (off := 0) hc18 tA4) ?_
                      refine pA (.int _ _) ?_
                      refine pA (.bool _) ?_
                      refine pE (gn (wpL_sq ?_))
                      refine wpL_drw [(0, true), (1, false), (2, true), (3, true), (4, false), (5, true), (6, true), (7, false), (8, true), (9, false), (10, false), (11, false), (12, false), (13, false), (14, false), (15, false), (16, false), (17, false), (18, false), (19, true), (20, true), (21, true), (22, true), (23, true), (24, true), (25, true), (26, true), (27, true), (28, true), (29, true), (30, true), (31, false), (32, false), (33, false)] [_, _, _, _, _, _, _, _, _, _, _, _, _, _, _, _, _, _, _, _, _, _, _, _, _, _, _, _, _, _, _, _, _, _] (by decide +kernel) (by rfl) ?_
                      refine pM (.bool _) ?_
                      refine pF tF81_3 ?_
                      refine pLo hO 1 (.lit _ _ _) tA45 ?_
                      refine pM (.int _ _) ?_
                      obtain ⟨c19, hc19, hk⟩ := bs hk
                      refine pX hc19 tE45 tZ38 ?_
                      refine pLp (.lit _ _ _) (rd1 (lm := m5) (off := 0) hc19 tA38) ?_
                      refine pM (.int _ _) ?_
                      obtain ⟨c20, hc20, hk⟩ := bs hk
                      refine pX hc20 tE38 tZ4 ?_
                      refine pLp (.bool _) (rd1 (lm := 0) (off := 0) hc20 tA4) ?_
                      refine pBn Try.underlying4 ?_
                      refine pM (.bool _) ?_
                      obtain ⟨t21, ht, hk⟩ := bs hk
                      refine wpR_mid (l1 := [_, _, _, _, _, _, _, _, _, _, _, _, _, _, _, _, _, _, _, _, _, _, _]) (fun S' => ∃ J, S' = ⟨hav [(1, .ptr b1 0), (2, .ptr b2 0), (9, .int .i64 x15), (94, .lit l4 aP0.Bars.length (flatL m5 aP0.Bars)), (95, .int .i64 (aP0.Bars.length : Int)), (96, .int .i64 x15), (101, .lit m5 c16.length ((flatL 0) c16)), (102, .int .i64 (c16.length : Int)), (103, .int .i64 x17), (141, .bool t21)] J, G⟩) ?_ ?_
                      · refine bc (b := !(c18 == c20)) (fun hg1 => ?_) (fun hg1 => ?_)
                        · replace hk := ct hg1 ht
                          refine pGn hg1 ?_
                          refine pGn hg1 ?_
                          refine pGn hg1 ?_
                          refine pGn hg1 ?_
                          refine pGu ?_
                          refine pGu ?_
                          refine pGn hg1 ?_
                          refine pGn hg1 ?_
                          refine pGu ?_
                          refine pGu ?_
                          refine pGu ?_
                          refine pGu ?_
                          refine pGu ?_
                          refine pGu ?_
                          refine pGu ?_
                          refine pGu ?_
                          refine pGu ?_
                          refine pGu ?_
                          refine pGu ?_
                          refine pGu ?_
                          refine pGu ?_
                          refine pGn hg1 ?_
                          refine pPt hg1 (.bool _) ?_
                          cases hk; exact pE ⟨_, St.hav _ ⟨rfl, rfl, rfl, rfl, rfl, rfl, rfl, rfl, rfl, rfl, trivial⟩⟩
                        · replace hk := cf hg1 ht
                          refine pGy hg1 ?_
                          refine pM (.int _ _) ?_
                          refine pGy hg1 ?_
                          refine pM (.int _ _) ?_
                          refine pGy hg1 ?_
                          refine pBi ?_
                          refine pGy hg1 ?_
                          refine pM (.bool _) ?_
                          refine wpR_mid (l1 := [_, _, _]) (fun S' => ∃ J, S' = ⟨hav [(1, .ptr b1 0), (2, .ptr b2 0), (9, .int .i64 x15), (11, .int .i64 x17), (94, .lit l4 aP0.Bars.length (flatL m5 aP0.Bars)), (95, .int .i64 (aP0.Bars.length : Int)), (96, .int .i64 x15), (101, .lit m5 c16.length ((flatL 0) c16)), (102, .int .i64 (c16.length : Int)), (103, .int .i64 x17), (118, .bool (!(c18 == c20))), (125, .bool ((x15 != x17) && !c18))] J, G⟩) ?_ ?_
                          · refine bc (b := (x15 != x17)) (fun hg2 => ?_) (fun hg2 => ?_)
                            · refine pGy hg2 ?_
                              refine pM (.bool _) ?_
                              refine pGy hg2 ?_
                              refine pU ?_
                              refine pGy hg1 ?_
                              refine pPt hg2 (.bool _) ?_
                              exact pE ⟨_, St.hav _ ⟨rfl, rfl, rfl, rfl, rfl, rfl, rfl, rfl, rfl, rfl, rfl, by rw [hg2]; rfl, trivial⟩⟩
                            · refine pGn hg2 ?_
                              refine pGn hg2 ?_
                              refine pGy hg1 ?_
                              refine pPf hg2 (.bool _) ?_
                              exact pE ⟨_, St.hav _ ⟨rfl, rfl, rfl, rfl, rfl, rfl, rfl, rfl, rfl, rfl, rfl, by rw [hg2]; rfl, trivial⟩⟩
                          · rintro _ ⟨J, rfl⟩
                            refine pGy hg1 ?_
                            refine pM (.bool _) ?_
                            obtain ⟨t22, ht, hk⟩ := bs hk
                            refine wpR_mid (l1 := [_, _, _, _, _, _, _, _, _, _, _, _, _, _]) (fun S' => ∃ J, S' = ⟨hav [(1, .ptr b1 0), (2, .ptr b2 0), (9, .int .i64 x15), (94, .lit l4 aP0.Bars.length (flatL m5 aP0.Bars)), (95, .int .i64 (aP0.Bars.length : Int)), (96, .int .i64 x15), (101, .lit m5 c16.length ((flatL 0) c16)), (102, .int .i64 (c16.length : Int)), (103, .int .i64 x17), (118, .bool (!(c18 == c20))), (140, .bool t22)] J, G⟩) ?_ ?_
                            · refine bc (b := ((x15 != x17) && !c18)) (fun hg2 => ?_) (fun hg2 => ?_)
                              · replace hk := ct hg2 ht
                                refine pGy hg2 ?_
                                refine pF tF81_2 ?_
                                refine pGy hg2 ?_
                                refine pLo hO 1 (.lit _ _ _) tA79 ?_
                                refine pGy hg2 ?_
                                refine pM (.int _ _) ?_
                                refine pGy hg2 ?_
                                obtain ⟨c23, hc23, hk⟩ := bs hk
                                refine pX hc23 tE79 tZ218 ?_
                                refine pGy hg2 ?_
                                refine pF tF218_0 ?_
                                refine pGy hg2 ?_
                                refine pLp (.lit _ _ _) (rd1 (lm := m3) (off := 0) hc23 tA26) ?_
                                refine pGy hg2 ?_
                                refine pF tF81_2 ?_
                                refine pGy hg2 ?_
                                refine pLo hO 1 (.lit _ _ _) tA79 ?_
                                refine pGy hg2 ?_
                                refine pM (.int _ _) ?_
                                refine pGy hg2 ?_
                                obtain ⟨c24, hc24, hk⟩ := bs hk
                                refine pX hc24 tE79 tZ218 ?_
                                refine pGy hg2 ?_
                                refine pF tF218_0 ?_
                                refine pGy hg2 ?_
                                refine pLp (.lit _ _ _) (rd1 (lm := m3) (off := 0) hc24 tA26) ?_
                                refine pGy hg2 ?_
                                obtain ⟨v25, hv25, hk⟩ := bs hk
                                refine pCall (fun _ => f169_run hv25) ?_
                                refine pGy hg1 ?_
                                refine pPt hg2 (.bool _) ?_
                                cases hk; exact pE ⟨_, St.hav _ ⟨rfl, rfl, rfl, rfl, rfl, rfl, rfl, rfl, rfl, rfl, rfl, trivial⟩⟩
                              · replace hk := cf hg2 ht
                                refine pGn hg2 ?_
                                refine pGn hg2 ?_
                                refine pGn hg2 ?_
                                refine pGn hg2 ?_
                                refine pGn hg2 ?_
                                refine pGn hg2 ?_
                                refine pGn hg2 ?_
                                refine pGn hg2 ?_
                                refine pGn hg2 ?_
                                refine pGn hg2 ?_
                                refine pGn hg2 ?_
                                refine pGn hg2 ?_
                                refine pGn hg2 ?_
                                refine pGy hg1 ?_
                                refine pPf hg2 (.bool _) ?_
                                cases hk; exact pE ⟨_, St.hav _ ⟨rfl, rfl, rfl, rfl, rfl, rfl, rfl, rfl, rfl, rfl, rfl, trivial⟩⟩
                            · rintro _ ⟨J, rfl⟩
                              refine pPf hg1 (.bool _) ?_
                              cases hk; exact pE ⟨_, St.hav _ ⟨rfl, rfl, rfl, rfl, rfl, rfl, rfl, rfl, rfl, rfl, trivial⟩⟩
                      · rintro _ ⟨J, rfl⟩
                        refine pE (gn ?_)
                        refine wpL_cd (b := t21) (fun hb => ?_) (fun hb => ?_)
                        · replace hk := ct hb hk
                          refine wpL_sq (wpL_rg ?_)
                          refine pM (.int _ _) ?_
                          refine pBd [_, _] t077 tP77 ?_
                          refine pSt (xs := [_, _]) hO 0 tZ77 rfl (fun G hO => ?_)
                          refine pE (gn (wpL_rt (br (gr (gr (br (br (gr (gr (br (gr ?_)))))))))))
                          replace hk := lx hx2 hk
                          replace hk := lx hx1 hk
                          replace hk := Option.some.inj hk; subst hk; exact finZ hO (fz_agg (n := 2) (fz_c (fz_int _ _) (fz_c (fz_int _ _) (fz_n)))) (resS hO 0 [_, _] tA77 tZ77 resN)
                        · replace hk := cf hb hk
                          refine wpL_sk (bn (gn (wpL_rg ?_)))
                          refine pBi ?_
                          refine pM (.int _ _) ?_
                          refine pE (gn ?_)
                          cases hk; exact ⟨_, rfl, _, _, hO, St.hav _ ⟨rfl, rfl, rfl, rfl, rfl, rfl, rfl, rfl, rfl, trivial⟩⟩
                    · replace hk := cf hb hk
                      refine wpL_ex (ge (ge (be (bn (gn ?_)))))
                      replace hk := lx hx2 hk
                      refine wpL_rg ?_
                      refine pBi ?_
                      refine pM (.int _ _) ?_
                      refine pE (gn ?_)
                      cases hk; exact ⟨_, rfl, _, _, hO, St.hav _ ⟨rfl, rfl, rfl, rfl, rfl, trivial⟩⟩
                  · replace hk := cf hb hk
                    refine wpL_ex (ge (ge (be (gn ?_))))
                    replace hk := lx hx1 hk
                    refine wpL_sq (wpL_rg ?_)
                    refine pBd [_, _] t077 tP77 ?_
                    refine pSt (xs := [_, _]) hO 0 tZ77 rfl (fun G hO => ?_)
                    refine pE (gn (wpL_rt ?_))
                    replace hk := Option.some.inj hk; subst hk; exact finZ hO (fz_agg (n := 2) (fz_c (fz_int _ _) (fz_c (fz_int _ _) (fz_n)))) (resS hO 0 [_, _] tA77 tZ77 resN)
/-- spec.l17ok -/
def f175 (aP0 : Plan) : Option Bool :=
  ((f52 aP0).bind fun v2 => some (v2.Code == (0:Int)))
theorem f175_run {aP0 : Plan} {r : Bool} {l1 l2 m3 l4 m5 : Nat} {H : Heap} {lk : Lk} (hk : f175 aP0 = some r) (hlk : 0 < lk.length := by simp) : runL Try.prog hh 175 [.agg [.int .i64 aP0.Sections, .lit l1 aP0.Switches.length ((flatL 0) aP0.Switches), .lit l2 aP0.Ways.length (flatL m3 aP0.Ways), .lit l4 aP0.Bars.length (flatL m5 aP0.Bars), .int .i64 aP0.Hold]] H lk = some (.bool r, H) := by
  refine run_start Try.func175 rfl Try.ntmps175 Try.results175 rfl rfl fun hO => ?_
  unfold f175 at hk
  refine wpL_sq (wpL_rg ?_)
  refine pBox (cs := [_, _, _, _, _]) hO tZ81 (fun b1 G hO => ?_)
  refine pA (.bool _) ?_
  refine pE (gn (wpL_sq (wpL_rg ?_)))
  refine pLs hO 0 [_, _, _, _, _] tA81 tZ81 ?_
  obtain ⟨v2, hv2, hk⟩ := bs hk
  refine pCall (fun _ => f52_run hv2) ?_
  refine pNew hO tZ77 t077 (fun b3 G hO => ?_)
  refine pSt (xs := [_, _]) hO 0 tZ77 rfl (fun G hO => ?_)
  refine pE (gn (wpL_sq (wpL_rg ?_)))
  refine pF tF77_0 ?_
  refine pLo hO 0 (.int _ _) tA3 ?_
  refine pBi ?_
  refine pA (.bool _) ?_
  refine pE (gn (wpL_rt ?_))
  replace hk := Option.some.inj hk; subst hk; exact fin0 hO
/-- spec.BeginFrame -/
def f90_L2 (aP0 : Plan) (m4 : Nat) : ((List Point) × (List Held) × Int) → Option (((List Point) × (List Held) × Int) ⊕ Frame) := fun s =>
  (bif decide (s.2.2 < (aP0.Ways.length : Int)) then ((getI aP0.Ways s.2.2).bind fun c17 => ((makeB 1 (c17.Sections.length : Int)).bind fun m19 => ((appB 56 s.2.1 [({ State := 0, Gone := 0, Been := List.replicate m19 (false : Bool), Shown := false, Timer := 0 } : Held)]).bind fun z22 => some (.inl (s.1, z22, w64 (s.2.2 + (1:Int))))))) else ((some ({ Ok := true, Occ := List.replicate m4 (false : Bool), Points := s.1, Ways := s.2.1 } : Frame)).map Sum.inr))
def f90_L1 (aP0 : Plan) (m4 : Nat) : ((List Point) × Int) → Option (((List Point) × Int) ⊕ Frame) := fun s =>
  (bif decide (s.2 < (aP0.Switches.length : Int)) then ((appB 16 s.1 ([({ Want := (1:Int), Lies := (1:Int) } : Point)] : List Point)).bind fun z10 => some (.inl (z10, w64 (s.2 + (1:Int))))) else ((loopO (f90_L2 aP0 m4) (s.1, ([] : List Held), (0:Int))).map Sum.inr))
def f90 (aP0 : Plan) : Option Frame :=
  ((f175 aP0).bind fun v3 => (bif !v3 then some ({ Ok := false, Occ := ([] : List Bool), Points := ([] : List Point), Ways := ([] : List Held) } : Frame) else ((makeB 1 aP0.Sections).bind fun m4 => (loopO (f90_L1 aP0 m4) (([] : List Point), (0:Int))))))
theorem f90_run {aP0 : Plan} {r : Frame} {l1 l2 m3 l4 m5 : Nat} {H : Heap} {lk : Lk} (hk : f90 aP0 = some r) (hlk : 0 < lk.length := by simp) : ∃ v H1, runL Try.prog hh 90 [.agg [.int .i64 aP0.Sections, .lit l1 aP0.Switches.length ((flatL 0) aP0.Switches), .lit l2 aP0.Ways.length (flatL m3 aP0.Ways), .lit l4 aP0.Bars.length (flatL m5 aP0.Bars), .int .i64 aP0.Hold]] H lk = some (v, H1) ∧ FreshS H r v H1 := by
  refine run_startR Try.func90 rfl Try.ntmps90 Try.results90 rfl rfl ?_
  have hO := Owns.nil H
  unfold f90 at hk
  refine wpL_sq (wpL_rg ?_)
  refine pBox (cs := [_, _, _, _, _]) hO tZ81 (fun b1 G hO => ?_)
  refine pNew hO tZ148 t0148 (fun b2 G hO => ?_)
  refine pE (gn (wpL_sq (wpL_sq (wpL_rg ?_))))
  refine pLs hO 1 [_, _, _, _, _] tA81 tZ81 ?_
  obtain ⟨v3, hv3, hk⟩ := bs hk
  refine pCall (fun _ => f175_run hv3) ?_
  refine pU ?_
  refine pE (gn ?_)
  refine wpL_cd (b := !v3) (fun hb => ?_) (fun hb => ?_)
  · replace hk := ct hb hk
    refine wpL_sq (wpL_rg ?_)
    refine pBd [_, _, _, _] t0148 tP148 ?_
    refine pSt (xs := [_, _, _, _]) hO 0 tZ148 rfl (fun G hO => ?_)
    refine pE (gn (wpL_rt (gr ?_)))
    replace hk := Option.some.inj hk; subst hk; exact finThS hO (th_Frame (x := ({ Ok := false, Occ := ([] : List Bool), Points := ([] : List Point), Ways := ([] : List Held) } : Frame)) (th_pair (c1 := [_]) (th_bool false) (th_pair (c1 := [_]) (th_nil Bool) (th_pair (c1 := [_]) (th_nil Point) (th_nil Held))))) (resS hO 0 [_, _, _, _] tA148 tZ148 resN)
  · replace hk := cf hb hk
    refine wpL_sk (gn (wpL_sq (wpL_rg ?_)))
    refine pF tF81_0 ?_
    refine pLo hO 1 (.int _ _) tA3 ?_
    obtain ⟨m4, hm4, hk⟩ := bs hk
    refine pMk hO hm4 (false : Bool) tE38 tZ4 tB4 t04 (fun b5 G hO => ?_)
    refine pBd [_, _, _, _] t0148 tP148 ?_
    refine pNew hO tZ148 t0148 (fun b6 G hO => ?_)
    refine pSt (xs := [_, _, _, _]) hO 0 tZ148 rfl (fun G hO => ?_)
    refine pE (gn (wpL_sq (wpL_sq (wpL_rg ?_))))
    refine pF tF81_1 ?_
    refine pLo hO 3 (.lit _ _ _) tA26 ?_
    refine pLen tS26 ?_
    refine pM (.int _ _) ?_
    refine pE (gn (wpL_bl ?_))
    refine wpL_loopO (F := f90_L1 aP0 m4) (fun s S' => ∃ (o7 : V) (J : Nat → V) (G : Heap), Nz o7 ∧ Owns H G [.own o7 lk.length 2 s.1.length ((flatL 0) s.1), .blk b6 (.cells 4 [.bool true, .sl b5 0 m4, o7, (.tl 0 [])]), .blk b5 (.cells 1 ((flatL 0) (List.replicate m4 (false : Bool)))), .blk b2 (.cells 4 [.bool false, (.tl 0 []), (.tl 0 []), (.tl 0 [])]), .blk b1 (.cells 5 [.int .i64 aP0.Sections, .lit l1 aP0.Switches.length ((flatL 0) aP0.Switches), .lit l2 aP0.Ways.length (flatL m3 aP0.Ways), .lit l4 aP0.Bars.length (flatL m5 aP0.Bars), .int .i64 aP0.Hold])] ∧ S' = ⟨hav [(1, .ptr b1 0), (2, .ptr b2 0), (3, .ptr b6 0), (16, .int .i64 (aP0.Switches.length : Int)), (17, .int .i64 s.2)] J, G⟩) hk ⟨(.tl 0 []), _, _, Nz.nil, (Owns.addTl hO lk.length ([] : List Point)), St.hav _ ⟨rfl, rfl, rfl, rfl, rfl, trivial⟩⟩ ?_
    rintro ⟨x7, x9⟩ _ y1 ⟨o7, J, G, hno7, hO, rfl⟩ hk hx1
    refine wpL_sq (wpL_rg ?_)
    refine pBi ?_
    refine pE (gn (wpL_sq ?_))
    refine wpL_cd (b := decide (x9 < (aP0.Switches.length : Int))) (fun hb => ?_) (fun hb => ?_)
    · replace hk := ct hb hk
      refine wpL_sk (gn (wpL_sq (wpL_bl (wpL_rg ?_))))
      refine pF tF148_2 ?_
      refine pLo hO 1 o7 tA145 ?_
      refine pBd [_, _] t0245 tP245 ?_
      refine pBs (ps := [(0, (.agg [_, _]))]) ([({ Want := (1:Int), Lies := (1:Int) } : Point)] : List Point) tE145 tZ245 t0245 (emb_cons (embx_agg (α := Point) ({ Want := (1:Int), Lies := (1:Int) } : Point)) (emb_nil)) ?_
      obtain ⟨z10, hz10, hk⟩ := bs hk
      refine pAp (xs := x7) hO 0 hz10 (bears_tl ([({ Want := (1:Int), Lies := (1:Int) } : Point)] : List Point)) tE145 tZ245 tB245 t0245 tE145 rfl (fun o10 G hno10 hO => ?_)
      replace hno10 := hno10 hno7
      refine pF tF148_2 ?_
      have hc11 := own_cells hO (j := 0) rfl
      refine pSt (xs := [_]) hO 1 tZ145 rfl (fun G hO => ?_) (h3 := hc11.1) (h6 := one_cell hc11.2)
      refine pE (bn (gn (wpL_rg ?_)))
      refine pBi ?_
      refine pM (.int _ _) ?_
      refine pE (gn ?_)
      cases hk; exact ⟨_, rfl, o10, _, _, hno10, hO, St.hav _ ⟨rfl, rfl, rfl, rfl, rfl, trivial⟩⟩
    · replace hk := cf hb hk
      refine wpL_ex (ge (ge (be (gn ?_))))
      replace hk := lx hx1 hk
      refine wpL_sq (wpL_sq (wpL_rg ?_))
      refine pF tF81_2 ?_
      refine pLo hO 4 (.lit _ _ _) tA79 ?_
      refine pLen tS79 ?_
      refine pM (.int _ _) ?_
      refine pE (gn (wpL_bl ?_))
      refine wpL_loopO (F := f90_L2 aP0 m4) (fun s S' => ∃ (o12 : V) (o14 : V) (F15 : List Nat) (J : Nat → V) (G : Heap), Nz o12 ∧ Owns H G [.own o12 lk.length 2 s.1.length ((flatL 0) s.1), Ap H lk.length F15 s.2.1 o14, .blk b6 (.cells 4 [.bool true, .sl b5 0 m4, o12, o14]), .blk b5 (.cells 1 ((flatL 0) (List.replicate m4 (false : Bool)))), .blk b2 (.cells 4 [.bool false, (.tl 0 []), (.tl 0 []), (.tl 0 [])])] ∧ S' = ⟨hav [(2, .ptr b2 0), (3, .ptr b6 0), (27, .lit l2 aP0.Ways.length (flatL m3 aP0.Ways)), (28, .int .i64 (aP0.Ways.length : Int)), (29, .int .i64 s.2.2)] J, G⟩) hk ⟨o7, (.tl 0 []), [], _, _, hno7, (Owns.pick (Owns.addAp hO Held lk.length) [1, 0, 2, 3, 4] (by decide) rfl), St.hav _ ⟨rfl, rfl, rfl, rfl, rfl, trivial⟩⟩ ?_
      rintro ⟨x12, x14, x16⟩ _ y1 ⟨o12, o14, F15, J, G, hno12, hO, rfl⟩ hk hx1
      refine wpL_sq (wpL_rg ?_)
      refine pBi ?_
      refine pE (gn (wpL_sq ?_))
      refine wpL_cd (b := decide (x16 < (aP0.Ways.length : Int))) (fun hb => ?_) (fun hb => ?_)
      · replace hk := ct hb hk
        refine wpL_sk (gn (wpL_sq (wpL_bl (wpL_sq (wpL_rg ?_)))))
        obtain ⟨c17, hc17, hk⟩ := bs hk
        refine pX hc17 tE79 tZ218 ?_
        refine pLp (.agg [_, _, _, _, _]) (rd2 (lm := m3) (off := 0) hc17 tA218 tZ218) ?_
        refine pNew hO tZ218 t0218 (fun b18 G hO => ?_)
        refine pSt (xs := [_, _, _, _, _]) hO 0 tZ218 rfl (fun G hO => ?_)
        refine pE (gn ?_)
        refine wpL_drw [(0, true), (1, true), (2, true), (3, true), (4, true), (5, true), (6, true), (7, true), (8, false), (9, false), (10, false)] [_, _, _, _, _, _, _, _, _, _, _] (by decide +kernel) (by rfl) ?_
        refine pF tF148_3 ?_
        refine pLo hO 3 o14 tA146 ?_
        refine pF tF218_0 ?_
        refine pLo hO 0 (.lit _ _ _) tA26 ?_
        refine pLen tS26 ?_
        obtain ⟨m19, hm19, hk⟩ := bs hk
        refine pMk hO hm19 (false : Bool) tE38 tZ4 tB4 t04 (fun b20 G hO => ?_)
        refine pBd [_, _, _, _, _] t0247 tP247 ?_
        refine pBs1 (ce := [.int .i64 0, .int .i64 0, .sl b20 0 m19, .bool false, .int .i64 0]) tE146 tZ247 t0247 rfl rfl rfl ?_
        replace hO := Owns.promM hO List.length_replicate hlk
        replace hO := (hO.treeMap (p' := fun G => Prom H.length lk.length (GoM.dep Held) (fun G => GoM.tr G (({ State := 0, Gone := 0, Been := List.replicate m19 (false : Bool), Shown := false, Timer := 0 } : Held) : Held)) G [.int .i64 0, .int .i64 0, .sl b20 0 m19, .bool false, .int .i64 0] [b20]) fun G h => (Prom.pairL (0 : Int) rfl (Prom.pairL (0 : Int) rfl (Prom.pairR (false, 0) rfl (Prom.up (m := GoM.dep Held) rfl h)))))
        have hce21 : ([.int .i64 0, .int .i64 0, .sl b20 0 m19, .bool false, .int .i64 0] : List V).length = GoT.sz Held ∧ ([.int .i64 0, .int .i64 0, .sl b20 0 m19, .bool false, .int .i64 0] : List V).all V.isCell = true := ⟨rfl, rfl⟩
        obtain ⟨z22, hz22, hk⟩ := bs hk
        refine pApA hO 2 hz22 hce21.1 hce21.2 tE146 tZ247 tB247 t0247 tE146 rfl (fun o22 F23 G hO => ?_)
        refine pF tF148_3 ?_
        have hc24 := ap_cells hO (j := 2) rfl
        refine pSt (xs := [_]) hO 3 tZ146 rfl (fun G hO => ?_) (h3 := hc24.1) (h6 := one_cell hc24.2)
        refine pE (bn (gn (wpL_rg ?_)))
        refine pBi ?_
        refine pM (.int _ _) ?_
        refine pE (gn ?_)
        cases hk; exact ⟨_, rfl, o12, o22, F23, _, _, hno12, (Owns.pick hO [1, 2, 3, 4, 5] (by decide) rfl), St.hav _ ⟨rfl, rfl, rfl, rfl, rfl, trivial⟩⟩
      · replace hk := cf hb hk
        refine wpL_ex (ge (ge (be (gn ?_))))
        replace hk := lx hx1 hk
        refine wpL_sq (wpL_rg ?_)
        refine pLs hO 2 [_, _, _, _] tA148 tZ148 ?_
        have hc25 := own_cells hO (j := 0) rfl
        have hc26 := ap_cells hO (j := 1) rfl
        refine pSt (xs := [_, _, _, _]) hO 4 tZ148 rfl (fun G hO => ?_) (h6 := (all_c rfl (all_c rfl (all_c hc25.2 (all_c hc26.2 all_n)))))
        refine pE (gn (wpL_rt ?_))
        replace hk := Option.some.inj hk; subst hk; exact finThS hO (th_Frame (x := ({ Ok := true, Occ := List.replicate m4 (false : Bool), Points := x12, Ways := x14 } : Frame)) (th_pair (c1 := [_]) (th_bool true) (th_pair (c1 := [_]) (th_made (xs := (List.replicate m4 (false : Bool))) List.length_replicate hlk 3) (th_pair (c1 := [_]) (th_own (xs := x12) hno12 hlk 0) (th_ap (xs := x14) hlk 0))))) (resS hO 4 [_, _, _, _] tA148 tZ148 resN)
/-- impl.within -/
def f171 (aX0 : Int) (aLo1 : Int) (aHi2 : Int) : Option Bool :=
  some (decide (aX0 ≥ aLo1) && decide (aX0 ≤ aHi2))
theorem f171_run {aX0 : Int} {aLo1 : Int} {aHi2 : Int} {r : Bool} {H : Heap} {lk : Lk} (hk : f171 aX0 aLo1 aHi2 = some r) (hlk : 0 < lk.length := by simp) : runL Try.prog hh 171 [.int .i64 aX0, .int .i64 aLo1, .int .i64 aHi2] H lk = some (.bool r, H) := by
  refine run_start Try.func171 rfl Try.ntmps171 Try.results171 rfl rfl fun hO => ?_
  unfold f171 at hk
  refine wpL_sq (wpL_rg ?_)
  refine pA (.bool _) ?_
  refine pE (gn (wpL_sq (wpL_rg ?_)))
  refine pM (.int _ _) ?_
  refine pM (.int _ _) ?_
  refine pBi ?_
  refine pM (.bool _) ?_
  refine wpR_mid (l1 := [_, _, _, _]) (fun S' => ∃ J, S' = ⟨hav [(14, .bool (decide (aX0 ≥ aLo1) && decide (aX0 ≤ aHi2)))] J, H⟩) ?_ ?_
  · refine bc (b := decide (aX0 ≥ aLo1)) (fun hg1 => ?_) (fun hg1 => ?_)
    · refine pGy hg1 ?_
      refine pM (.int _ _) ?_
      refine pGy hg1 ?_
      refine pM (.int _ _) ?_
      refine pGy hg1 ?_
      refine pBi ?_
      refine pPt hg1 (.bool _) ?_
      exact pE ⟨_, St.hav _ ⟨by rw [hg1]; rfl, trivial⟩⟩
    · refine pGn hg1 ?_
      refine pGn hg1 ?_
      refine pGn hg1 ?_
      refine pPf hg1 (.bool _) ?_
      exact pE ⟨_, St.hav _ ⟨by rw [hg1]; rfl, trivial⟩⟩
  · rintro _ ⟨J, rfl⟩
    refine pA (.bool _) ?_
    refine pE (gn (wpL_rt ?_))
    replace hk := Option.some.inj hk; subst hk; exact fin0 hO
/-- slices.Index[[]int,int] -/
def f260_L1 (aS0 : List Int) (aV1 : Int) : Int → Option (Int ⊕ Int) := fun s =>
  (bif decide (s < (aS0.length : Int)) then ((getI aS0 s).bind fun c2 => (bif (aV1 == c2) then ((some s).map Sum.inr) else some (.inl (w64 (s + (1:Int)))))) else ((some (-1:Int)).map Sum.inr))
def f260 (aS0 : List Int) (aV1 : Int) : Option Int :=
  (loopO (f260_L1 aS0 aV1) ((0:Int)))
theorem f260_run {aS0 : List Int} {aV1 : Int} {r : Int} {l1 : Nat} {H : Heap} {lk : Lk} (hk : f260 aS0 aV1 = some r) (hlk : 0 < lk.length := by simp) : runL Try.prog hh 260 [.lit l1 aS0.length ((flatL 0) aS0), .int .i64 aV1] H lk = some (.int .i64 r, H) := by
  refine run_start Try.func260 rfl Try.ntmps260 Try.results260 rfl rfl fun hO => ?_
  unfold f260 at hk
  refine wpL_sq (wpL_rg ?_)
  refine pA (.int _ _) ?_
  refine pE (gn (wpL_sq (wpL_sq (wpL_rg ?_))))
  refine pM (.lit _ _ _) ?_
  refine pLen tS26 ?_
  refine pM (.int _ _) ?_
  refine pE (gn (wpL_bl ?_))
  refine wpL_loopO (F := f260_L1 aS0 aV1) (fun s S' => ∃ (J : Nat → V) (G : Heap), Owns H G [] ∧ S' = ⟨hav [(0, .lit l1 aS0.length ((flatL 0) aS0)), (1, .int .i64 aV1), (7, .int .i64 (aS0.length : Int)), (8, .int .i64 s)] J, G⟩) hk ⟨_, _, hO, St.hav _ ⟨rfl, rfl, rfl, rfl, trivial⟩⟩ ?_
  rintro x1 _ y1 ⟨J, G, hO, rfl⟩ hk hx1
  refine wpL_sq (wpL_rg ?_)
  refine pBi ?_
  refine pE (gn (wpL_sq ?_))
  refine wpL_cd (b := decide (x1 < (aS0.length : Int))) (fun hb => ?_) (fun hb => ?_)
  · replace hk := ct hb hk
    refine wpL_sk (gn (wpL_sq (wpL_bl (wpL_sq (wpL_rg ?_)))))
    refine pM (.int _ _) ?_
    refine pA (.int _ _) ?_
    refine pE (gn (wpL_sq (wpL_rg ?_)))
    refine pM (.int _ _) ?_
    refine pM (.lit _ _ _) ?_
    refine pM (.int _ _) ?_
    obtain ⟨c2, hc2, hk⟩ := bs hk
    refine pX hc2 tE26 tZ3 ?_
    refine pLp (.int _ _) (rd1 (lm := 0) (off := 0) hc2 tA3) ?_
    refine pBi ?_
    refine pE (gn ?_)
    refine wpL_cd (b := (aV1 == c2)) (fun hb => ?_) (fun hb => ?_)
    · replace hk := ct hb hk
      refine wpL_sq (wpL_rg ?_)
      refine pM (.int _ _) ?_
      refine pA (.int _ _) ?_
      refine pE (gn (wpL_rt (br (gr (gr (br (gr ?_)))))))
      replace hk := lx hx1 hk
      replace hk := Option.some.inj hk; subst hk; exact fin0 hO
    · replace hk := cf hb hk
      refine wpL_sk (bn (gn (wpL_rg ?_)))
      refine pBi ?_
      refine pM (.int _ _) ?_
      refine pE (gn ?_)
      cases hk; exact ⟨_, rfl, _, _, hO, St.hav _ ⟨rfl, rfl, rfl, rfl, trivial⟩⟩
  · replace hk := cf hb hk
    refine wpL_ex (ge (ge (be (gn ?_))))
    replace hk := lx hx1 hk
    refine wpL_sq (wpL_rg ?_)
    refine pA (.int _ _) ?_
    refine pE (gn (wpL_rt ?_))
    replace hk := Option.some.inj hk; subst hk; exact fin0 hO
/-- slices.Contains[[]int,int] -/
def f161 (aS0 : List Int) (aV1 : Int) : Option Bool :=
  ((f260 aS0 aV1).bind fun v1 => some (decide (v1 ≥ (0:Int))))
theorem f161_run {aS0 : List Int} {aV1 : Int} {r : Bool} {l1 : Nat} {H : Heap} {lk : Lk} (hk : f161 aS0 aV1 = some r) (hlk : 0 < lk.length := by simp) : runL Try.prog hh 161 [.lit l1 aS0.length ((flatL 0) aS0), .int .i64 aV1] H lk = some (.bool r, H) := by
  refine run_start Try.func161 rfl Try.ntmps161 Try.results161 rfl rfl fun hO => ?_
  unfold f161 at hk
  refine wpL_sq (wpL_rg ?_)
  refine pA (.bool _) ?_
  refine pE (gn (wpL_sq (wpL_rg ?_)))
  refine pM (.lit _ _ _) ?_
  refine pM (.int _ _) ?_
  obtain ⟨v1, hv1, hk⟩ := bs hk
  refine pCall (fun _ => f260_run hv1) ?_
  refine pBi ?_
  refine pA (.bool _) ?_
  refine pE (gn (wpL_rt ?_))
  replace hk := Option.some.inj hk; subst hk; exact fin0 hO
/-- impl.sections -/
def f270_L1 (aL0 : List Int) (aN1 : Int) : Int → Option (Int ⊕ Bool) := fun s =>
  (bif decide (s < (aL0.length : Int)) then ((getI aL0 s).bind fun c2 => ((f171 c2 (0:Int) (w64 (aN1 - (1:Int)))).bind fun v3 => ((bif !v3 then some true else ((subB aL0 (0:Int) s).bind fun y5 => ((f161 y5 c2).bind fun v6 => some v6))).bind fun t4 => (bif t4 then ((some false).map Sum.inr) else some (.inl (w64 (s + (1:Int)))))))) else ((some (decide ((aL0.length : Int) ≤ (30:Int)))).map Sum.inr))
def f270 (aL0 : List Int) (aN1 : Int) : Option Bool :=
  (loopO (f270_L1 aL0 aN1) ((0:Int)))
theorem f270_run {aL0 : List Int} {aN1 : Int} {r : Bool} {l1 : Nat} {H : Heap} {lk : Lk} (hk : f270 aL0 aN1 = some r) (hlk : 0 < lk.length := by simp) : runL Try.prog hh 270 [.lit l1 aL0.length ((flatL 0) aL0), .int .i64 aN1] H lk = some (.bool r, H) := by
  refine run_start Try.func270 rfl Try.ntmps270 Try.results270 rfl rfl fun hO => ?_
  unfold f270 at hk
  refine wpL_sq (wpL_rg ?_)
  refine pA (.bool _) ?_
  refine pE (gn (wpL_sq (wpL_sq (wpL_rg ?_))))
  refine pM (.lit _ _ _) ?_
  refine pLen tS26 ?_
  refine pM (.int _ _) ?_
  refine pE (gn (wpL_bl ?_))
  refine wpL_loopO (F := f270_L1 aL0 aN1) (fun s S' => ∃ (J : Nat → V) (G : Heap), Owns H G [] ∧ S' = ⟨hav [(0, .lit l1 aL0.length ((flatL 0) aL0)), (1, .int .i64 aN1), (7, .lit l1 aL0.length ((flatL 0) aL0)), (8, .int .i64 (aL0.length : Int)), (9, .int .i64 s)] J, G⟩) hk ⟨_, _, hO, St.hav _ ⟨rfl, rfl, rfl, rfl, rfl, trivial⟩⟩ ?_
  rintro x1 _ y1 ⟨J, G, hO, rfl⟩ hk hx1
  refine wpL_sq (wpL_rg ?_)
  refine pBi ?_
  refine pE (gn (wpL_sq ?_))
  refine wpL_cd (b := decide (x1 < (aL0.length : Int))) (fun hb => ?_) (fun hb => ?_)
  · replace hk := ct hb hk
    refine wpL_sk (gn (wpL_sq (wpL_bl (wpL_sq (wpL_rg ?_)))))
    refine pM (.int _ _) ?_
    obtain ⟨c2, hc2, hk⟩ := bs hk
    refine pX hc2 tE26 tZ3 ?_
    refine pLp (.int _ _) (rd1 (lm := 0) (off := 0) hc2 tA3) ?_
    refine pA (.int _ _) ?_
    refine pA (.int _ _) ?_
    refine pE (gn (wpL_sq (wpL_rg ?_)))
    refine pM (.int _ _) ?_
    refine pM (.int _ _) ?_
    refine pBi ?_
    obtain ⟨v3, hv3, hk⟩ := bs hk
    refine pCall (fun _ => f171_run hv3) ?_
    refine pU ?_
    refine pM (.bool _) ?_
    obtain ⟨t4, ht, hk⟩ := bs hk
    refine wpR_mid (l1 := [_, _, _, _, _, _]) (fun S' => ∃ J, S' = ⟨hav [(0, .lit l1 aL0.length ((flatL 0) aL0)), (1, .int .i64 aN1), (7, .lit l1 aL0.length ((flatL 0) aL0)), (8, .int .i64 (aL0.length : Int)), (9, .int .i64 x1), (25, .bool t4)] J, G⟩) ?_ ?_
    · refine bc (b := !v3) (fun hg1 => ?_) (fun hg1 => ?_)
      · replace hk := ct hg1 ht
        refine pGn hg1 ?_
        refine pGn hg1 ?_
        refine pGn hg1 ?_
        refine pGn hg1 ?_
        refine pGn hg1 ?_
        refine pPt hg1 (.bool _) ?_
        cases hk; exact pE ⟨_, St.hav _ ⟨rfl, rfl, rfl, rfl, rfl, rfl, trivial⟩⟩
      · replace hk := cf hg1 ht
        refine pGy hg1 ?_
        refine pM (.lit _ _ _) ?_
        refine pGy hg1 ?_
        refine pM (.int _ _) ?_
        refine pGy hg1 ?_
        obtain ⟨y5, hy5, hk⟩ := bs hk
        refine pSlH hy5 tE26 tZ3 ?_
        refine pGy hg1 ?_
        refine pM (.int _ _) ?_
        refine pGy hg1 ?_
        obtain ⟨v6, hv6, hk⟩ := bs hk
        refine pCall (fun _ => f161_run hv6) ?_
        refine pPf hg1 (.bool _) ?_
        cases hk; exact pE ⟨_, St.hav _ ⟨rfl, rfl, rfl, rfl, rfl, rfl, trivial⟩⟩
    · rintro _ ⟨J, rfl⟩
      refine pE (gn ?_)
      refine wpL_cd (b := t4) (fun hb => ?_) (fun hb => ?_)
      · replace hk := ct hb hk
        refine wpL_sq (wpL_rg ?_)
        refine pA (.bool _) ?_
        refine pE (gn (wpL_rt (br (gr (gr (br (gr ?_)))))))
        replace hk := lx hx1 hk
        replace hk := Option.some.inj hk; subst hk; exact fin0 hO
      · replace hk := cf hb hk
        refine wpL_sk (bn (gn (wpL_rg ?_)))
        refine pBi ?_
        refine pM (.int _ _) ?_
        refine pE (gn ?_)
        cases hk; exact ⟨_, rfl, _, _, hO, St.hav _ ⟨rfl, rfl, rfl, rfl, rfl, trivial⟩⟩
  · replace hk := cf hb hk
    refine wpL_ex (ge (ge (be (gn ?_))))
    replace hk := lx hx1 hk
    refine wpL_sq (wpL_rg ?_)
    refine pM (.lit _ _ _) ?_
    refine pLen tS26 ?_
    refine pBi ?_
    refine pA (.bool _) ?_
    refine pE (gn (wpL_rt ?_))
    replace hk := Option.some.inj hk; subst hk; exact fin0 hO
/-- impl.common$1 -/
def f273 (aX0 : Int) (aA1 : List Int) : Option Bool :=
  ((f161 aA1 aX0).bind fun v1 => some v1)
theorem f273_run {aX0 : Int} {aA1 : List Int} {r : Bool} {l1 : Nat} {H : Heap} {lk : Lk} {q0 : Nat} (hk : f273 aX0 aA1 = some r) (hq0 : H[q0]? = some (.cells 1 [.lit l1 aA1.length ((flatL 0) aA1)])) (hlk : 0 < lk.length := by simp) : runL Try.prog hh 273 [.int .i64 aX0, .ptr q0 0] H lk = some (.bool r, H) := by
  refine run_start Try.func273 rfl Try.ntmps273 Try.results273 rfl rfl fun hO => ?_
  unfold f273 at hk
  refine wpL_sq (wpL_rg ?_)
  refine pA (.bool _) ?_
  refine pE (gn (wpL_sq (wpL_rg ?_)))
  refine pLf (.lit _ _ _) hO hq0 tA26 ?_
  refine pM (.int _ _) ?_
  obtain ⟨v1, hv1, hk⟩ := bs hk
  refine pCall (fun _ => f161_run hv1) ?_
  refine pA (.bool _) ?_
  refine pE (gn (wpL_rt ?_))
  replace hk := Option.some.inj hk; subst hk; exact fin0 hO
/-- slices.IndexFunc[[]int,int] -/
def f326c273_L1 (aS0 : List Int) (aC1_0 : List Int) : Int → Option (Int ⊕ Int) := fun s =>
  (bif decide (s < (aS0.length : Int)) then ((getI aS0 s).bind fun c2 => ((f273 c2 aC1_0).bind fun v3 => (bif v3 then ((some s).map Sum.inr) else some (.inl (w64 (s + (1:Int))))))) else ((some (-1:Int)).map Sum.inr))
def f326c273 (aS0 : List Int) (aC1_0 : List Int) : Option Int :=
  (loopO (f326c273_L1 aS0 aC1_0) ((0:Int)))
theorem f326c273_run {aS0 : List Int} {aC1_0 : List Int} {r : Int} {l1 l2 : Nat} {H : Heap} {lk : Lk} {q0 : Nat} (hk : f326c273 aS0 aC1_0 = some r) (hq0 : H[q0]? = some (.cells 1 [.lit l2 aC1_0.length ((flatL 0) aC1_0)])) (hlk : 0 < lk.length := by simp) : runL Try.prog hh 326 [.lit l1 aS0.length ((flatL 0) aS0), .fn 273 [.ptr q0 0]] H lk = some (.int .i64 r, H) := by
  refine run_start Try.func326 rfl Try.ntmps326 Try.results326 rfl rfl fun hO => ?_
  unfold f326c273 at hk
  refine wpL_sq (wpL_rg ?_)
  refine pA (.int _ _) ?_
  refine pE (gn (wpL_sq (wpL_sq (wpL_rg ?_))))
  refine pM (.lit _ _ _) ?_
  refine pLen tS26 ?_
  refine pM (.int _ _) ?_
  refine pE (gn (wpL_bl ?_))
  refine wpL_loopO (F := f326c273_L1 aS0 aC1_0) (fun s S' => ∃ (J : Nat → V) (G : Heap), Owns H G [] ∧ S' = ⟨hav [(0, .lit l1 aS0.length ((flatL 0) aS0)), (1, .fn 273 [.ptr q0 0]), (7, .int .i64 (aS0.length : Int)), (8, .int .i64 s)] J, G⟩) hk ⟨_, _, hO, St.hav _ ⟨rfl, rfl, rfl, rfl, trivial⟩⟩ ?_
  rintro x1 _ y1 ⟨J, G, hO, rfl⟩ hk hx1
  refine wpL_sq (wpL_rg ?_)
  refine pBi ?_
  refine pE (gn (wpL_sq ?_))
  refine wpL_cd (b := decide (x1 < (aS0.length : Int))) (fun hb => ?_) (fun hb => ?_)
  · replace hk := ct hb hk
    refine wpL_sk (gn (wpL_sq (wpL_bl (wpL_sq (wpL_rg ?_)))))
    refine pM (.int _ _) ?_
    refine pA (.int _ _) ?_
    refine pE (gn (wpL_sq (wpL_rg ?_)))
    refine pM (.fn _ _) ?_
    refine pM (.lit _ _ _) ?_
    refine pM (.int _ _) ?_
    obtain ⟨c2, hc2, hk⟩ := bs hk
    refine pX hc2 tE26 tZ3 ?_
    refine pLp (.int _ _) (rd1 (lm := 0) (off := 0) hc2 tA3) ?_
    obtain ⟨v3, hv3, hk⟩ := bs hk
    refine pCall (fun _ => f273_run hv3 (own_for hO hq0)) ?_
    refine pE (gn ?_)
    refine wpL_cd (b := v3) (fun hb => ?_) (fun hb => ?_)
    · replace hk := ct hb hk
      refine wpL_sq (wpL_rg ?_)
      refine pM (.int _ _) ?_
      refine pA (.int _ _) ?_
      refine pE (gn (wpL_rt (br (gr (gr (br (gr ?_)))))))
      replace hk := lx hx1 hk
      replace hk := Option.some.inj hk; subst hk; exact fin0 hO
    · replace hk := cf hb hk
      refine wpL_sk (bn (gn (wpL_rg ?_)))
      refine pBi ?_
      refine pM (.int _ _) ?_
      refine pE (gn ?_)
      cases hk; exact ⟨_, rfl, _, _, hO, St.hav _ ⟨rfl, rfl, rfl, rfl, trivial⟩⟩
  · replace hk := cf hb hk
    refine wpL_ex (ge (ge (be (gn ?_))))
    replace hk := lx hx1 hk
    refine wpL_sq (wpL_rg ?_)
    refine pA (.int _ _) ?_
    refine pE (gn (wpL_rt ?_))
    replace hk := Option.some.inj hk; subst hk; exact fin0 hO
/-- slices.ContainsFunc[[]int,int] -/
def f272c273 (aS0 : List Int) (aC1_0 : List Int) : Option Bool :=
  ((f326c273 aS0 aC1_0).bind fun v1 => some (decide (v1 ≥ (0:Int))))
theorem f272c273_run {aS0 : List Int} {aC1_0 : List Int} {r : Bool} {l1 l2 : Nat} {H : Heap} {lk : Lk} {q0 : Nat} (hk : f272c273 aS0 aC1_0 = some r) (hq0 : H[q0]? = some (.cells 1 [.lit l2 aC1_0.length ((flatL 0) aC1_0)])) (hlk : 0 < lk.length := by simp) : runL Try.prog hh 272 [.lit l1 aS0.length ((flatL 0) aS0), .fn 273 [.ptr q0 0]] H lk = some (.bool r, H) := by
  refine run_start Try.func272 rfl Try.ntmps272 Try.results272 rfl rfl fun hO => ?_
  unfold f272c273 at hk
  refine wpL_sq (wpL_rg ?_)
  refine pA (.bool _) ?_
  refine pE (gn (wpL_sq (wpL_rg ?_)))
  refine pM (.lit _ _ _) ?_
  refine pM (.fn _ _) ?_
  obtain ⟨v1, hv1, hk⟩ := bs hk
  refine pCall (fun _ => f326c273_run hv1 (own_for hO hq0)) ?_
  refine pBi ?_
  refine pA (.bool _) ?_
  refine pE (gn (wpL_rt ?_))
  replace hk := Option.some.inj hk; subst hk; exact fin0 hO
/-- impl.common -/
def f173 (aA0 : List Int) (aB1 : List Int) : Option Bool :=
  ((f272c273 aA0 aB1).bind fun v2 => some v2)
theorem f173_run {aA0 : List Int} {aB1 : List Int} {r : Bool} {l1 l2 : Nat} {H : Heap} {lk : Lk} (hk : f173 aA0 aB1 = some r) (hlk : 0 < lk.length := by simp) : runL Try.prog hh 173 [.lit l1 aA0.length ((flatL 0) aA0), .lit l2 aB1.length ((flatL 0) aB1)] H lk = some (.bool r, H) := by
  refine run_start Try.func173 rfl Try.ntmps173 Try.results173 rfl rfl fun hO => ?_
  unfold f173 at hk
  refine wpL_sq (wpL_rg ?_)
  refine pBox (cs := [_]) hO tZ26 (fun b1 G hO => ?_)
  refine pA (.bool _) ?_
  refine pE (gn (wpL_sq (wpL_rg ?_)))
  refine pM (.lit _ _ _) ?_
  refine pFn (vs := [_]) ?_
  obtain ⟨v2, hv2, hk⟩ := bs hk
  refine pCall (fun _ => f272c273_run hv2 (hO.get (k := 0) rfl).1) ?_
  refine pA (.bool _) ?_
  refine pE (gn (wpL_rt ?_))
  replace hk := Option.some.inj hk; subst hk; exact fin0 hO
/-- impl.wayOk -/
def f172_L2 (aP0 : Plan) (aW1 : Way) : Int → Option (Int ⊕ Bool) := fun s =>
  (bif decide (s < (aW1.Lies.length : Int)) then ((getI aW1.Lies s).bind fun c24 => ((getI aP0.Switches c24.Switch).bind fun c26 => ((f161 aW1.Sections c26).bind fun v27 => (bif !v27 then ((some false).map Sum.inr) else some (.inl (w64 (s + (1:Int)))))))) else (((f173 aW1.Sections aW1.Over).bind fun v28 => some (!v28)).map Sum.inr))
def f172_L1 (aP0 : Plan) (aW1 : Way) (z12 : List Turn) : ((List (Int × Bool)) × (List Turn) × Int) → Option (((List (Int × Bool)) × (List Turn) × Int) ⊕ Bool) := fun s =>
  (bif decide (s.2.2 < (z12.length : Int)) then ((getI s.2.1 s.2.2).bind fun c17 => ((f171 c17.Switch (0:Int) (w64 ((aP0.Switches.length : Int) - (1:Int)))).bind fun v20 => ((bif !v20 then some true else ((f171 c17.Lie (1:Int) (2:Int)).bind fun v22 => some (!v22))).bind fun t21 => (bif (t21 || (mget c17.Switch s.1 false)) then ((some false).map Sum.inr) else some (.inl (mset c17.Switch true s.1, s.2.1, w64 (s.2.2 + (1:Int)))))))) else ((loopO (f172_L2 aP0 aW1) ((0:Int))).map Sum.inr))
def f172 (aP0 : Plan) (aW1 : Way) : Option Bool :=
  ((bif ((aW1.Sections.length : Int) == (0:Int)) then some true else ((f270 aW1.Sections aP0.Sections).bind fun v4 => some (!v4))).bind fun t3 => ((bif t3 then some true else ((f270 aW1.Over aP0.Sections).bind fun v6 => some (!v6))).bind fun t5 => ((bif t5 then some true else ((f270 aW1.Near aP0.Sections).bind fun v8 => some (!v8))).bind fun t7 => (bif ((t7 || decide ((aW1.Lies.length : Int) > (30:Int))) || decide ((aW1.Flanks.length : Int) > (30:Int))) then some false else ((appB 16 ([] : List Turn) aW1.Lies).bind fun z10 => ((appB 16 z10 aW1.Flanks).bind fun z12 => (loopO (f172_L1 aP0 aW1 z12) (([] : List (Int × Bool)), z12, (0:Int)))))))))
theorem f172_run {aP0 : Plan} {aW1 : Way} {r : Bool} {l1 l2 m3 l4 m5 l6 l7 l8 l9 l10 : Nat} {H : Heap} {lk : Lk} (hk : f172 aP0 aW1 = some r) (hlk : 0 < lk.length := by simp) : runL Try.prog hh 172 [.agg [.int .i64 aP0.Sections, .lit l1 aP0.Switches.length ((flatL 0) aP0.Switches), .lit l2 aP0.Ways.length (flatL m3 aP0.Ways), .lit l4 aP0.Bars.length (flatL m5 aP0.Bars), .int .i64 aP0.Hold], .agg [.lit l6 aW1.Sections.length ((flatL 0) aW1.Sections), .lit l7 aW1.Lies.length ((flatL 0) aW1.Lies), .lit l8 aW1.Flanks.length ((flatL 0) aW1.Flanks), .lit l9 aW1.Over.length ((flatL 0) aW1.Over), .lit l10 aW1.Near.length ((flatL 0) aW1.Near)]] H lk = some (.bool r, H) := by
  refine run_start Try.func172 rfl Try.ntmps172 Try.results172 rfl rfl fun hO => ?_
  unfold f172 at hk
  refine wpL_sq (wpL_rg ?_)
  refine pBox (cs := [_, _, _, _, _]) hO tZ81 (fun b1 G hO => ?_)
  refine pBox (cs := [_, _, _, _, _]) hO tZ218 (fun b2 G hO => ?_)
  refine pA (.bool _) ?_
  refine pE (gn (wpL_sq (wpL_sq (wpL_rg ?_))))
  refine pF tF218_0 ?_
  refine pLo hO 0 (.lit _ _ _) tA26 ?_
  refine pLen tS26 ?_
  refine pBi ?_
  refine pM (.bool _) ?_
  obtain ⟨t3, ht, hk⟩ := bs hk
  refine wpR_mid (l1 := [_, _, _, _, _, _, _]) (fun S' => ∃ J, S' = ⟨hav [(2, .ptr b1 0), (3, .ptr b2 0), (21, .bool t3)] J, G⟩) ?_ ?_
  · refine bc (b := ((aW1.Sections.length : Int) == (0:Int))) (fun hg1 => ?_) (fun hg1 => ?_)
    · replace hk := ct hg1 ht
      refine pGn hg1 ?_
      refine pGn hg1 ?_
      refine pGn hg1 ?_
      refine pGn hg1 ?_
      refine pGn hg1 ?_
      refine pGn hg1 ?_
      refine pPt hg1 (.bool _) ?_
      cases hk; exact pE ⟨_, St.hav _ ⟨rfl, rfl, rfl, trivial⟩⟩
    · replace hk := cf hg1 ht
      refine pGy hg1 ?_
      refine pF tF218_0 ?_
      refine pGy hg1 ?_
      refine pLo hO 0 (.lit _ _ _) tA26 ?_
      refine pGy hg1 ?_
      refine pF tF81_0 ?_
      refine pGy hg1 ?_
      refine pLo hO 1 (.int _ _) tA3 ?_
      refine pGy hg1 ?_
      obtain ⟨v4, hv4, hk⟩ := bs hk
      refine pCall (fun _ => f270_run hv4) ?_
      refine pGy hg1 ?_
      refine pU ?_
      refine pPf hg1 (.bool _) ?_
      cases hk; exact pE ⟨_, St.hav _ ⟨rfl, rfl, rfl, trivial⟩⟩
  · rintro _ ⟨J, rfl⟩
    refine pM (.bool _) ?_
    obtain ⟨t5, ht, hk⟩ := bs hk
    refine wpR_mid (l1 := [_, _, _, _, _, _, _]) (fun S' => ∃ J, S' = ⟨hav [(2, .ptr b1 0), (3, .ptr b2 0), (29, .bool t5)] J, G⟩) ?_ ?_
    · refine bc (b := t3) (fun hg1 => ?_) (fun hg1 => ?_)
      · replace hk := ct hg1 ht
        refine pGn hg1 ?_
        refine pGn hg1 ?_
        refine pGn hg1 ?_
        refine pGn hg1 ?_
        refine pGn hg1 ?_
        refine pGn hg1 ?_
        refine pPt hg1 (.bool _) ?_
        cases hk; exact pE ⟨_, St.hav _ ⟨rfl, rfl, rfl, trivial⟩⟩
      · replace hk := cf hg1 ht
        refine pGy hg1 ?_
        refine pF tF218_3 ?_
        refine pGy hg1 ?_
        refine pLo hO 0 (.lit _ _ _) tA26 ?_
        refine pGy hg1 ?_
        refine pF tF81_0 ?_
        refine pGy hg1 ?_
        refine pLo hO 1 (.int _ _) tA3 ?_
        refine pGy hg1 ?_
        obtain ⟨v6, hv6, hk⟩ := bs hk
        refine pCall (fun _ => f270_run hv6) ?_
        refine pGy hg1 ?_
        refine pU ?_
        refine pPf hg1 (.bool _) ?_
        cases hk; exact pE ⟨_, St.hav _ ⟨rfl, rfl, rfl, trivial⟩⟩
    · rintro _ ⟨J, rfl⟩
      refine pM (.bool _) ?_
      obtain ⟨t7, ht, hk⟩ := bs hk
      refine wpR_mid (l1 := [_, _, _, _, _, _, _]) (fun S' => ∃ J, S' = ⟨hav [(2, .ptr b1 0), (3, .ptr b2 0), (37, .bool t7)] J, G⟩) ?_ ?_
      · refine bc (b := t5) (fun hg1 => ?_) (fun hg1 => ?_)
        · replace hk := ct hg1 ht
          refine pGn hg1 ?_
          refine pGn hg1 ?_
          refine pGn hg1 ?_
          refine pGn hg1 ?_
          refine pGn hg1 ?_
          refine pGn hg1 ?_
          refine pPt hg1 (.bool _) ?_
          cases hk; exact pE ⟨_, St.hav _ ⟨rfl, rfl, rfl, trivial⟩⟩
        · replace hk := cf hg1 ht
          refine pGy hg1 ?_
          refine pF tF218_4 ?_
          refine pGy hg1 ?_
          refine pLo hO 0 (.lit _ _ _) tA26 ?_
          refine pGy hg1 ?_
          refine pF tF81_0 ?_
          refine pGy hg1 ?_
          refine pLo hO 1 (.int _ _) tA3 ?_
          refine pGy hg1 ?_
          obtain ⟨v8, hv8, hk⟩ := bs hk
          refine pCall (fun _ => f270_run hv8) ?_
          refine pGy hg1 ?_
          refine pU ?_
          refine pPf hg1 (.bool _) ?_
          cases hk; exact pE ⟨_, St.hav _ ⟨rfl, rfl, rfl, trivial⟩⟩
      · rintro _ ⟨J, rfl⟩
        refine pM (.bool _) ?_
        refine wpR_mid (l1 := [_, _, _, _, _]) (fun S' => ∃ J, S' = ⟨hav [(2, .ptr b1 0), (3, .ptr b2 0), (43, .bool (t7 || decide ((aW1.Lies.length : Int) > (30:Int))))] J, G⟩) ?_ ?_
        · refine bc (b := t7) (fun hg1 => ?_) (fun hg1 => ?_)
          · refine pGn hg1 ?_
            refine pGn hg1 ?_
            refine pGn hg1 ?_
            refine pGn hg1 ?_
            refine pPt hg1 (.bool _) ?_
            exact pE ⟨_, St.hav _ ⟨rfl, rfl, by rw [hg1]; rfl, trivial⟩⟩
          · refine pGy hg1 ?_
            refine pF tF218_1 ?_
            refine pGy hg1 ?_
            refine pLo hO 0 (.lit _ _ _) tA216 ?_
            refine pGy hg1 ?_
            refine pLen tS216 ?_
            refine pGy hg1 ?_
            refine pBi ?_
            refine pPf hg1 (.bool _) ?_
            exact pE ⟨_, St.hav _ ⟨rfl, rfl, by rw [hg1]; rfl, trivial⟩⟩
        · rintro _ ⟨J, rfl⟩
          refine pM (.bool _) ?_
          refine wpR_mid (l1 := [_, _, _, _, _]) (fun S' => ∃ J, S' = ⟨hav [(2, .ptr b1 0), (3, .ptr b2 0), (49, .bool ((t7 || decide ((aW1.Lies.length : Int) > (30:Int))) || decide ((aW1.Flanks.length : Int) > (30:Int))))] J, G⟩) ?_ ?_
          · refine bc (b := (t7 || decide ((aW1.Lies.length : Int) > (30:Int)))) (fun hg1 => ?_) (fun hg1 => ?_)
            · refine pGn hg1 ?_
              refine pGn hg1 ?_
              refine pGn hg1 ?_
              refine pGn hg1 ?_
              refine pPt hg1 (.bool _) ?_
              exact pE ⟨_, St.hav _ ⟨rfl, rfl, by rw [hg1]; rfl, trivial⟩⟩
            · refine pGy hg1 ?_
              refine pF tF218_2 ?_
              refine pGy hg1 ?_
              refine pLo hO 0 (.lit _ _ _) tA216 ?_
              refine pGy hg1 ?_
              refine pLen tS216 ?_
              refine pGy hg1 ?_
              refine pBi ?_
              refine pPf hg1 (.bool _) ?_
              exact pE ⟨_, St.hav _ ⟨rfl, rfl, by rw [hg1]; rfl, trivial⟩⟩
          · rintro _ ⟨J, rfl⟩
            refine pE (gn ?_)
            refine wpL_cd (b := ((t7 || decide ((aW1.Lies.length : Int) > (30:Int))) || decide ((aW1.Flanks.length : Int) > (30:Int)))) (fun hb => ?_) (fun hb => ?_)
            · replace hk := ct hb hk
              refine wpL_sq (wpL_rg ?_)
              refine pA (.bool _) ?_
              refine pE (gn (wpL_rt (gr ?_)))
              replace hk := Option.some.inj hk; subst hk; exact fin0 hO
            · replace hk := cf hb hk
              refine wpL_sk (gn (wpL_sq (wpL_rg ?_)))
              refine pMm Int Bool hO (fun b9 G hO => ?_)
              refine pA (.mref _) ?_
              refine pE (gn (wpL_sq (wpL_sq ?_)))
              refine wpL_drw [(0, true), (1, true), (3, true), (4, true), (7, true), (2, true), (5, false), (6, false)] [_, _, _, _, _, _, _, _] (by decide +kernel) (by rfl) ?_
              refine pF tF218_1 ?_
              refine pLo hO 1 (.lit _ _ _) tA216 ?_
              refine pF tF218_2 ?_
              refine pLo hO 1 (.lit _ _ _) tA216 ?_
              refine pM (.int _ _) ?_
              obtain ⟨z10, hz10, hk⟩ := bs hk
              refine pClone (xs := aW1.Lies) hO hz10 Try.func271 tC271 tE216 tZ307 tB307 t0307 (fun o10 G hno10 hO => ?_)
              obtain ⟨z12, hz12, hk⟩ := bs hk
              refine pAp (xs := z10) hO 0 hz12 (bears_lit _ aW1.Flanks) tE216 tZ307 tB307 t0307 tE216 rfl (fun o12 G hno12 hO => ?_)
              refine pLenO (bears_own hO (j := 0) rfl) tS216 ?_
              refine pE (gn (wpL_bl ?_))
              refine wpL_loopO (F := f172_L1 aP0 aW1 z12) (fun s S' => ∃ (o14 : V) (J : Nat → V) (G : Heap), Owns H G [.blk b9 (.mp (kvs s.1)), .blk b2 (.cells 5 [.lit l6 aW1.Sections.length ((flatL 0) aW1.Sections), .lit l7 aW1.Lies.length ((flatL 0) aW1.Lies), .lit l8 aW1.Flanks.length ((flatL 0) aW1.Flanks), .lit l9 aW1.Over.length ((flatL 0) aW1.Over), .lit l10 aW1.Near.length ((flatL 0) aW1.Near)]), .blk b1 (.cells 5 [.int .i64 aP0.Sections, .lit l1 aP0.Switches.length ((flatL 0) aP0.Switches), .lit l2 aP0.Ways.length (flatL m3 aP0.Ways), .lit l4 aP0.Bars.length (flatL m5 aP0.Bars), .int .i64 aP0.Hold]), .own o14 lk.length 2 s.2.1.length ((flatL 0) s.2.1)] ∧ S' = ⟨hav [(2, .ptr b1 0), (3, .ptr b2 0), (5, .mref b9), (56, o14), (57, .int .i64 (z12.length : Int)), (58, .int .i64 s.2.2)] J, G⟩) hk ⟨o12, _, _, (Owns.pick hO [1, 2, 3, 0] (by decide) rfl), St.hav _ ⟨rfl, rfl, rfl, rfl, rfl, rfl, trivial⟩⟩ ?_
              rintro ⟨x13, x14, x16⟩ _ y1 ⟨o14, J, G, hO, rfl⟩ hk hx1
              refine wpL_sq (wpL_rg ?_)
              refine pBi ?_
              refine pE (gn (wpL_sq ?_))
              refine wpL_cd (b := decide (x16 < (z12.length : Int))) (fun hb => ?_) (fun hb => ?_)
              · replace hk := ct hb hk
                refine wpL_sk (gn (wpL_sq (wpL_bl (wpL_sq (wpL_rg ?_)))))
                obtain ⟨c17, hc17, hk⟩ := bs hk
                refine pXo hO 3 hc17 tE216 tZ307 (fun lv18 => ?_)
                refine pLp (.agg [_, _]) (rd2 (lm := 0) (off := 0) hc17 tA307 tZ307) ?_
                refine pNew hO tZ307 t0307 (fun b19 G hO => ?_)
                refine pSt (xs := [_, _]) hO 0 tZ307 rfl (fun G hO => ?_)
                refine pE (gn (wpL_sq (wpL_sq (wpL_rg ?_))))
                refine pF tF307_0 ?_
                refine pLo hO 0 (.int _ _) tA3 ?_
                refine pF tF81_1 ?_
                refine pLo hO 3 (.lit _ _ _) tA26 ?_
                refine pLen tS26 ?_
                refine pBi ?_
                obtain ⟨v20, hv20, hk⟩ := bs hk
                refine pCall (fun _ => f171_run hv20) ?_
                refine pU ?_
                refine pM (.bool _) ?_
                obtain ⟨t21, ht, hk⟩ := bs hk
                refine wpR_mid (l1 := [_, _, _, _, _]) (fun S' => ∃ J, S' = ⟨hav [(2, .ptr b1 0), (3, .ptr b2 0), (5, .mref b9), (7, .ptr b19 0), (56, o14), (57, .int .i64 (z12.length : Int)), (58, .int .i64 x16), (75, .bool t21)] J, G⟩) ?_ ?_
                · refine bc (b := !v20) (fun hg1 => ?_) (fun hg1 => ?_)
                  · replace hk := ct hg1 ht
                    refine pGn hg1 ?_
                    refine pGn hg1 ?_
                    refine pGn hg1 ?_
                    refine pGn hg1 ?_
                    refine pPt hg1 (.bool _) ?_
                    cases hk; exact pE ⟨_, St.hav _ ⟨rfl, rfl, rfl, rfl, rfl, rfl, rfl, rfl, trivial⟩⟩
                  · replace hk := cf hg1 ht
                    refine pGy hg1 ?_
                    refine pF tF307_1 ?_
                    refine pGy hg1 ?_
                    refine pLo hO 0 (.int _ _) tA3 ?_
                    refine pGy hg1 ?_
                    obtain ⟨v22, hv22, hk⟩ := bs hk
                    refine pCall (fun _ => f171_run hv22) ?_
                    refine pGy hg1 ?_
                    refine pU ?_
                    refine pPf hg1 (.bool _) ?_
                    cases hk; exact pE ⟨_, St.hav _ ⟨rfl, rfl, rfl, rfl, rfl, rfl, rfl, rfl, trivial⟩⟩
                · rintro _ ⟨J, rfl⟩
                  refine pM (.bool _) ?_
                  refine wpR_mid (l1 := [_, _, _, _, _]) (fun S' => ∃ J, S' = ⟨hav [(2, .ptr b1 0), (3, .ptr b2 0), (5, .mref b9), (7, .ptr b19 0), (56, o14), (57, .int .i64 (z12.length : Int)), (58, .int .i64 x16), (81, .bool (t21 || (mget c17.Switch x13 false)))] J, G⟩) ?_ ?_
                  · refine bc (b := t21) (fun hg1 => ?_) (fun hg1 => ?_)
                    · refine pGn hg1 ?_
                      refine pGn hg1 ?_
                      refine pGn hg1 ?_
                      refine pGn hg1 ?_
                      refine pPt hg1 (.bool _) ?_
                      exact pE ⟨_, St.hav _ ⟨rfl, rfl, rfl, rfl, rfl, rfl, rfl, by rw [hg1]; rfl, trivial⟩⟩
                    · refine pGy hg1 ?_
                      refine pM (.mref _) ?_
                      refine pGy hg1 ?_
                      refine pF tF307_0 ?_
                      refine pGy hg1 ?_
                      refine pLo hO 0 (.int _ _) tA3 ?_
                      refine pGy hg1 ?_
                      refine pLk c17.Switch (false : Bool) (hO.get (k := 1) rfl).1 tM309 fit_int tY4 ?_
                      refine pPf hg1 (.bool _) ?_
                      exact pE ⟨_, St.hav _ ⟨rfl, rfl, rfl, rfl, rfl, rfl, rfl, by rw [hg1]; rfl, trivial⟩⟩
                  · rintro _ ⟨J, rfl⟩
                    refine pE (gn ?_)
                    refine wpL_cd (b := (t21 || (mget c17.Switch x13 false))) (fun hb => ?_) (fun hb => ?_)
                    · replace hk := ct hb hk
                      refine wpL_sq (wpL_rg ?_)
                      refine pA (.bool _) ?_
                      refine pE (gn (wpL_rt (gr (br (gr (gr (br (gr ?_))))))))
                      replace hk := lx hx1 hk
                      replace hk := Option.some.inj hk; subst hk; exact fin0 hO
                    · replace hk := cf hb hk
                      refine wpL_sk (gn (wpL_rg ?_))
                      refine pM (.mref _) ?_
                      refine pF tF307_0 ?_
                      refine pLo hO 0 (.int _ _) tA3 ?_
                      refine pUp hO 1 c17.Switch true tM309 fit_int rfl (fun G hO => ?_)
                      refine pE (bn (gn (wpL_rg ?_)))
                      refine pBi ?_
                      refine pM (.int _ _) ?_
                      refine pE (gn ?_)
                      cases hk; exact ⟨_, rfl, o14, _, _, (Owns.pick hO [1, 2, 3, 4] (by decide) rfl), St.hav _ ⟨rfl, rfl, rfl, rfl, rfl, rfl, trivial⟩⟩
              · replace hk := cf hb hk
                refine wpL_ex (ge (ge (be (gn ?_))))
                replace hk := lx hx1 hk
                refine wpL_sq (wpL_sq (wpL_rg ?_))
                refine pF tF218_1 ?_
                refine pLo hO 1 (.lit _ _ _) tA216 ?_
                refine pLen tS216 ?_
                refine pM (.int _ _) ?_
                refine pE (gn (wpL_bl ?_))
                refine wpL_loopO (F := f172_L2 aP0 aW1) (fun s S' => ∃ (J : Nat → V) (G : Heap), Owns H G [.blk b2 (.cells 5 [.lit l6 aW1.Sections.length ((flatL 0) aW1.Sections), .lit l7 aW1.Lies.length ((flatL 0) aW1.Lies), .lit l8 aW1.Flanks.length ((flatL 0) aW1.Flanks), .lit l9 aW1.Over.length ((flatL 0) aW1.Over), .lit l10 aW1.Near.length ((flatL 0) aW1.Near)]), .blk b1 (.cells 5 [.int .i64 aP0.Sections, .lit l1 aP0.Switches.length ((flatL 0) aP0.Switches), .lit l2 aP0.Ways.length (flatL m3 aP0.Ways), .lit l4 aP0.Bars.length (flatL m5 aP0.Bars), .int .i64 aP0.Hold])] ∧ S' = ⟨hav [(2, .ptr b1 0), (3, .ptr b2 0), (87, .lit l7 aW1.Lies.length ((flatL 0) aW1.Lies)), (88, .int .i64 (aW1.Lies.length : Int)), (89, .int .i64 s)] J, G⟩) hk ⟨_, _, (Owns.pick hO [1, 2] (by decide) rfl), St.hav _ ⟨rfl, rfl, rfl, rfl, rfl, trivial⟩⟩ ?_
                rintro x23 _ y1 ⟨J, G, hO, rfl⟩ hk hx1
                refine wpL_sq (wpL_rg ?_)
                refine pBi ?_
                refine pE (gn (wpL_sq ?_))
                refine wpL_cd (b := decide (x23 < (aW1.Lies.length : Int))) (fun hb => ?_) (fun hb => ?_)
                · replace hk := ct hb hk
                  refine wpL_sk (gn (wpL_sq (wpL_bl (wpL_sq (wpL_rg ?_)))))
                  obtain ⟨c24, hc24, hk⟩ := bs hk
                  refine pX hc24 tE216 tZ307 ?_
                  refine pLp (.agg [_, _]) (rd2 (lm := 0) (off := 0) hc24 tA307 tZ307) ?_
                  refine pNew hO tZ307 t0307 (fun b25 G hO => ?_)
                  refine pSt (xs := [_, _]) hO 0 tZ307 rfl (fun G hO => ?_)
                  refine pE (gn (wpL_sq ?_))
                  refine wpL_drw [(0, true), (1, true), (2, true), (3, true), (4, true), (5, true), (6, true), (7, true), (8, false), (9, false)] [_, _, _, _, _, _, _, _, _, _] (by decide +kernel) (by rfl) ?_
                  refine pF tF218_0 ?_
                  refine pLo hO 1 (.lit _ _ _) tA26 ?_
                  refine pF tF81_1 ?_
                  refine pLo hO 2 (.lit _ _ _) tA26 ?_
                  refine pF tF307_0 ?_
                  refine pLo hO 0 (.int _ _) tA3 ?_
                  obtain ⟨c26, hc26, hk⟩ := bs hk
                  refine pX hc26 tE26 tZ3 ?_
                  refine pLp (.int _ _) (rd1 (lm := 0) (off := 0) hc26 tA3) ?_
                  obtain ⟨v27, hv27, hk⟩ := bs hk
                  refine pCall (fun _ => f161_run hv27) ?_
                  refine pU ?_
                  refine pE (gn ?_)
                  refine wpL_cd (b := !v27) (fun hb => ?_) (fun hb => ?_)
                  · replace hk := ct hb hk
                    refine wpL_sq (wpL_rg ?_)
                    refine pA (.bool _) ?_
                    refine pE (gn (wpL_rt (br (gr (gr (br (gr ?_)))))))
                    replace hk := lx hx1 hk
                    replace hk := Option.some.inj hk; subst hk; exact fin0 hO
                  · replace hk := cf hb hk
                    refine wpL_sk (bn (gn (wpL_rg ?_)))
                    refine pBi ?_
                    refine pM (.int _ _) ?_
                    refine pE (gn ?_)
                    cases hk; exact ⟨_, rfl, _, _, (Owns.pick hO [1, 2] (by decide) rfl), St.hav _ ⟨rfl, rfl, rfl, rfl, rfl, trivial⟩⟩
                · replace hk := cf hb hk
                  refine wpL_ex (ge (ge (be (gn ?_))))
                  replace hk := lx hx1 hk
                  refine wpL_sq (wpL_rg ?_)
                  refine pF tF218_0 ?_
                  refine pLo hO 0 (.lit _ _ _) tA26 ?_
                  refine pF tF218_3 ?_
                  refine pLo hO 0 (.lit _ _ _) tA26 ?_
                  obtain ⟨v28, hv28, hk⟩ := bs hk
                  refine pCall (fun _ => f173_run hv28) ?_
                  refine pU ?_
                  refine pA (.bool _) ?_
                  refine pE (gn (wpL_rt ?_))
                  replace hk := Option.some.inj hk; subst hk; exact fin0 hO
/-- impl.PlanOk -/
def f54_L5 (aP0 : Plan) (x15 : Int) : Int → Option (Int ⊕ (Int ⊕ Fault)) := fun s =>
  (bif decide (s < (aP0.Ways.length : Int)) then ((getI aP0.Bars x15).bind fun c17 => ((getI c17 s).bind fun c18 => ((getI aP0.Bars s).bind fun c19 => ((getI c19 x15).bind fun c20 => ((bif !(c18 == c20) then some true else ((bif (x15 != s) then ((getI aP0.Bars x15).bind fun c23 => ((getI c23 s).bind fun c24 => some (!c24))) else some false).bind fun t22 => ((bif t22 then ((getI aP0.Ways x15).bind fun c26 => ((getI aP0.Ways s).bind fun c27 => ((f173 c26.Sections c27.Sections).bind fun v28 => some v28))) else some false).bind fun t25 => some t25))).bind fun t21 => (bif t21 then (((some ({ Code := (5:Int), At := x15 } : Fault)).map Sum.inr).map Sum.inr) else some (.inl (w64 (s + (1:Int)))))))))) else ((some (.inl (w64 (x15 + (1:Int))))).map Sum.inr))
def f54_L4 (aP0 : Plan) : Int → Option (Int ⊕ Fault) := fun s =>
  (bif decide (s < (aP0.Ways.length : Int)) then (loopO (f54_L5 aP0 s) ((0:Int))) else ((some ({ Code := 0, At := 0 } : Fault)).map Sum.inr))
def f54_L3 (aP0 : Plan) : Int → Option (Int ⊕ Fault) := fun s =>
  (bif decide (s < (aP0.Bars.length : Int)) then ((getI aP0.Bars s).bind fun c14 => (bif ((c14.length : Int) != (aP0.Ways.length : Int)) then ((some ({ Code := (4:Int), At := s } : Fault)).map Sum.inr) else some (.inl (w64 (s + (1:Int)))))) else ((loopO (f54_L4 aP0) ((0:Int))).map Sum.inr))
def f54_L2 (aP0 : Plan) : Int → Option (Int ⊕ Fault) := fun s =>
  (bif decide (s < (aP0.Ways.length : Int)) then ((getI aP0.Ways s).bind fun c10 => ((f172 aP0 c10).bind fun v12 => (bif !v12 then ((some ({ Code := (3:Int), At := s } : Fault)).map Sum.inr) else some (.inl (w64 (s + (1:Int))))))) else ((bif ((aP0.Bars.length : Int) != (aP0.Ways.length : Int)) then some ({ Code := (4:Int), At := (0:Int) } : Fault) else (loopO (f54_L3 aP0) ((0:Int)))).map Sum.inr))
def f54_L1 (aP0 : Plan) : Int → Option (Int ⊕ Fault) := fun s =>
  (bif decide (s < (aP0.Switches.length : Int)) then ((getI aP0.Switches s).bind fun c7 => ((f171 c7 (0:Int) (w64 (aP0.Sections - (1:Int)))).bind fun v8 => (bif !v8 then ((some ({ Code := (2:Int), At := s } : Fault)).map Sum.inr) else some (.inl (w64 (s + (1:Int))))))) else ((loopO (f54_L2 aP0) ((0:Int))).map Sum.inr))
def f54 (aP0 : Plan) : Option Fault :=
  ((f171 aP0.Sections (1:Int) (60:Int)).bind fun v3 => ((bif !v3 then some true else ((f171 aP0.Hold (1:Int) (300:Int)).bind fun v5 => some (!v5))).bind fun t4 => (bif ((t4 || decide ((aP0.Switches.length : Int) > (40:Int))) || decide ((aP0.Ways.length : Int) > (100:Int))) then some ({ Code := (1:Int), At := (0:Int) } : Fault) else (loopO (f54_L1 aP0) ((0:Int))))))
theorem f54_run {aP0 : Plan} {r : Fault} {l1 l2 m3 l4 m5 : Nat} {H : Heap} {lk : Lk} (hk : f54 aP0 = some r) (hlk : 0 < lk.length := by simp) : runL Try.prog hh 54 [.agg [.int .i64 aP0.Sections, .lit l1 aP0.Switches.length ((flatL 0) aP0.Switches), .lit l2 aP0.Ways.length (flatL m3 aP0.Ways), .lit l4 aP0.Bars.length (flatL m5 aP0.Bars), .int .i64 aP0.Hold]] H lk = some (.agg [.int .i64 r.Code, .int .i64 r.At], H) := by
  refine run_start Try.func54 rfl Try.ntmps54 Try.results54 rfl rfl fun hO => ?_
  unfold f54 at hk
  refine wpL_sq (wpL_rg ?_)
  refine pBox (cs := [_, _, _, _, _]) hO tZ81 (fun b1 G hO => ?_)
  refine pNew hO tZ77 t077 (fun b2 G hO => ?_)
  refine pE (gn (wpL_sq (wpL_sq (wpL_rg ?_))))
  refine pF tF81_0 ?_
  refine pLo hO 1 (.int _ _) tA3 ?_
  obtain ⟨v3, hv3, hk⟩ := bs hk
  refine pCall (fun _ => f171_run hv3) ?_
  refine pU ?_
  refine pM (.bool _) ?_
  obtain ⟨t4, ht, hk⟩ := bs hk
  refine wpR_mid (l1 := [_, _, _, _, _]) (fun S' => ∃ J, S' = ⟨hav [(1, .ptr b1 0), (2, .ptr b2 0), (20, .bool t4)] J, G⟩) ?_ ?_
  · refine bc (b := !v3) (fun hg1 => ?_) (fun hg1 => ?_)
    · replace hk := ct hg1 ht
      refine pGn hg1 ?_
      refine pGn hg1 ?_
      refine pGn hg1 ?_
      refine pGn hg1 ?_
      refine pPt hg1 (.bool _) ?_
      cases hk; exact pE ⟨_, St.hav _ ⟨rfl, rfl, rfl, trivial⟩⟩
    · replace hk := cf hg1 ht
      refine pGy hg1 ?_
      refine pF tF81_4 ?_
      refine pGy hg1 ?_
      refine pLo hO 1 (.int _ _) tA3 ?_
      refine pGy hg1 ?_
      obtain ⟨v5, hv5, hk⟩ := bs hk
      refine pCall (fun _ => f171_run hv5) ?_
      refine pGy hg1 ?_
      refine pU ?_
      refine pPf hg1 (.bool _) ?_
      cases hk; exact pE ⟨_, St.hav _ ⟨rfl, rfl, rfl, trivial⟩⟩
  · rintro _ ⟨J, rfl⟩
    refine pM (.bool _) ?_
    refine wpR_mid (l1 := [_, _, _, _, _]) (fun S' => ∃ J, S' = ⟨hav [(1, .ptr b1 0), (2, .ptr b2 0), (26, .bool (t4 || decide ((aP0.Switches.length : Int) > (40:Int))))] J, G⟩) ?_ ?_
    · refine bc (b := t4) (fun hg1 => ?_) (fun hg1 => ?_)
      · refine pGn hg1 ?_
        refine pGn hg1 ?_
        refine pGn hg1 ?_
        refine pGn hg1 ?_
        refine pPt hg1 (.bool _) ?_
        exact pE ⟨_, St.hav _ ⟨rfl, rfl, by rw [hg1]; rfl, trivial⟩⟩
      · refine pGy hg1 ?_
        refine pF tF81_1 ?_
        refine pGy hg1 ?_
        refine pLo hO 1 (.lit _ _ _) tA26 ?_
        refine pGy hg1 ?_
        refine pLen tS26 ?_
        refine pGy hg1 ?_
        refine pBi ?_
        refine pPf hg1 (.bool _) ?_
        exact pE ⟨_, St.hav _ ⟨rfl, rfl, by rw [hg1]; rfl, trivial⟩⟩
    · rintro _ ⟨J, rfl⟩
      refine pM (.bool _) ?_
      refine wpR_mid (l1 := [_, _, _, _, _]) (fun S' => ∃ J, S' = ⟨hav [(1, .ptr b1 0), (2, .ptr b2 0), (32, .bool ((t4 || decide ((aP0.Switches.length : Int) > (40:Int))) || decide ((aP0.Ways.length : Int) > (100:Int))))] J, G⟩) ?_ ?_
      · refine bc (b := (t4 || decide ((aP0.Switches.length : Int) > (40:Int)))) (fun hg1 => ?_) (fun hg1 => ?_)
        · refine pGn hg1 ?_
          refine pGn hg1 ?_
          refine pGn hg1 ?_
          refine pGn hg1 ?_
          refine pPt hg1 (.bool _) ?_
          exact pE ⟨_, St.hav _ ⟨rfl, rfl, by rw [hg1]; rfl, trivial⟩⟩
        · refine pGy hg1 ?_
          refine pF tF81_2 ?_
          refine pGy hg1 ?_
          refine pLo hO 1 (.lit _ _ _) tA79 ?_
          refine pGy hg1 ?_
          refine pLen tS79 ?_
          refine pGy hg1 ?_
          refine pBi ?_
          refine pPf hg1 (.bool _) ?_
          exact pE ⟨_, St.hav _ ⟨rfl, rfl, by rw [hg1]; rfl, trivial⟩⟩
      · rintro _ ⟨J, rfl⟩
        refine pE (gn ?_)
        refine wpL_cd (b := ((t4 || decide ((aP0.Switches.length : Int) > (40:Int))) || decide ((aP0.Ways.length : Int) > (100:Int)))) (fun hb => ?_) (fun hb => ?_)
        · replace hk := ct hb hk
          refine wpL_sq (wpL_rg ?_)
          refine pBd [_, _] t077 tP77 ?_
          refine pSt (xs := [_, _]) hO 0 tZ77 rfl (fun G hO => ?_)
          refine pE (gn (wpL_rt (gr ?_)))
          replace hk := Option.some.inj hk; subst hk; exact finZ hO (fz_agg (n := 2) (fz_c (fz_int _ _) (fz_c (fz_int _ _) (fz_n)))) (resS hO 0 [_, _] tA77 tZ77 resN)
        · replace hk := cf hb hk
          refine wpL_sk (gn (wpL_sq (wpL_sq (wpL_rg ?_))))
          refine pF tF81_1 ?_
          refine pLo hO 1 (.lit _ _ _) tA26 ?_
          refine pLen tS26 ?_
          refine pM (.int _ _) ?_
          refine pE (gn (wpL_bl ?_))
          refine wpL_loopO (F := f54_L1 aP0) (fun s S' => ∃ (J : Nat → V) (G : Heap), Owns H G [.blk b2 (.cells 2 [.int .i64 0, .int .i64 0]), .blk b1 (.cells 5 [.int .i64 aP0.Sections, .lit l1 aP0.Switches.length ((flatL 0) aP0.Switches), .lit l2 aP0.Ways.length (flatL m3 aP0.Ways), .lit l4 aP0.Bars.length (flatL m5 aP0.Bars), .int .i64 aP0.Hold])] ∧ S' = ⟨hav [(1, .ptr b1 0), (2, .ptr b2 0), (35, .lit l1 aP0.Switches.length ((flatL 0) aP0.Switches)), (36, .int .i64 (aP0.Switches.length : Int)), (37, .int .i64 s)] J, G⟩) hk ⟨_, _, hO, St.hav _ ⟨rfl, rfl, rfl, rfl, rfl, trivial⟩⟩ ?_
          rintro x6 _ y1 ⟨J, G, hO, rfl⟩ hk hx1
          refine wpL_sq (wpL_rg ?_)
          refine pBi ?_
          refine pE (gn (wpL_sq ?_))
          refine wpL_cd (b := decide (x6 < (aP0.Switches.length : Int))) (fun hb => ?_) (fun hb => ?_)
          · replace hk := ct hb hk
            refine wpL_sk (gn (wpL_sq (wpL_bl (wpL_sq (wpL_rg ?_)))))
            refine pM (.int _ _) ?_
            obtain ⟨c7, hc7, hk⟩ := bs hk
            refine pX hc7 tE26 tZ3 ?_
            refine pLp (.int _ _) (rd1 (lm := 0) (off := 0) hc7 tA3) ?_
            refine pA (.int _ _) ?_
            refine pA (.int _ _) ?_
            refine pE (gn (wpL_sq (wpL_rg ?_)))
            refine pM (.int _ _) ?_
            refine pF tF81_0 ?_
            refine pLo hO 1 (.int _ _) tA3 ?_
            refine pBi ?_
            obtain ⟨v8, hv8, hk⟩ := bs hk
            refine pCall (fun _ => f171_run hv8) ?_
            refine pU ?_
            refine pE (gn ?_)
            refine wpL_cd (b := !v8) (fun hb => ?_) (fun hb => ?_)
            · replace hk := ct hb hk
              refine wpL_sq (wpL_rg ?_)
              refine pM (.int _ _) ?_
              refine pBd [_, _] t077 tP77 ?_
              refine pSt (xs := [_, _]) hO 0 tZ77 rfl (fun G hO => ?_)
              refine pE (gn (wpL_rt (br (gr (gr (br (gr ?_)))))))
              replace hk := lx hx1 hk
              replace hk := Option.some.inj hk; subst hk; exact finZ hO (fz_agg (n := 2) (fz_c (fz_int _ _) (fz_c (fz_int _ _) (fz_n)))) (resS hO 0 [_, _] tA77 tZ77 resN)
            · replace hk := cf hb hk
              refine wpL_sk (bn (gn (wpL_rg ?_)))
              refine pBi ?_
              refine pM (.int _ _) ?_
              refine pE (gn ?_)
              cases hk; exact ⟨_, rfl, _, _, hO, St.hav _ ⟨rfl, rfl, rfl, rfl, rfl, trivial⟩⟩
          · replace hk := cf hb hk
            refine wpL_ex (ge (ge (be (gn ?_))))
            replace hk := lx hx1 hk
            refine wpL_sq (wpL_sq (wpL_rg ?_))
            refine pF tF81_2 ?_
            refine pLo hO 1 (.lit _ _ _) tA79 ?_
            refine pLen tS79 ?_
            refine pM (.int _ _) ?_
            refine pE (gn (wpL_bl ?_))
            refine wpL_loopO (F := f54_L2 aP0) (fun s S' => ∃ (J : Nat → V) (G : Heap), Owns H G [.blk b2 (.cells 2 [.int .i64 0, .int .i64 0]), .blk b1 (.cells 5 [.int .i64 aP0.Sections, .lit l1 aP0.Switches.length ((flatL 0) aP0.Switches), .lit l2 aP0.Ways.length (flatL m3 aP0.Ways), .lit l4 aP0.Bars.length (flatL m5 aP0.Bars), .int .i64 aP0.Hold])] ∧ S' = ⟨hav [(1, .ptr b1 0), (2, .ptr b2 0), (52, .lit l2 aP0.Ways.length (flatL m3 aP0.Ways)), (53, .int .i64 (aP0.Ways.length : Int)), (54, .int .i64 s)] J, G⟩) hk ⟨_, _, hO, St.hav _ ⟨rfl, rfl, rfl, rfl, rfl, trivial⟩⟩ ?_
            rintro x9 _ y1 ⟨J, G, hO, rfl⟩ hk hx1
            refine wpL_sq (wpL_rg ?_)
            refine pBi ?_
            refine pE (gn (wpL_sq ?_))
            refine wpL_cd (b := decide (x9 < (aP0.Ways.length : Int))) (fun hb => ?_) (fun hb => ?_)
            · replace hk := ct hb hk
              refine wpL_sk (gn (wpL_sq (wpL_bl (wpL_sq (wpL_rg ?_)))))
              refine pM (.int _ _) ?_
              obtain ⟨c10, hc10, hk⟩ := bs hk
              refine pX hc10 tE79 tZ218 ?_
              refine pLp (.agg [_, _, _, _, _]) (rd2 (lm := m3) (off := 0) hc10 tA218 tZ218) ?_
              refine pNew hO tZ218 t0218 (fun b11 G hO => ?_)
              refine pA (.int _ _) ?_
              refine pSt (xs := [_, _, _, _, _]) hO 0 tZ218 rfl (fun G hO => ?_)
              refine pE (gn (wpL_sq (wpL_rg ?_)))
              refine pLs hO 2 [_, _, _, _, _] tA81 tZ81 ?_
              refine pLs hO 0 [_, _, _, _, _] tA218 tZ218 ?_
              obtain ⟨v12, hv12, hk⟩ := bs hk
              refine pCall (fun _ => f172_run hv12) ?_
              refine pU ?_
              refine pE (gn ?_)
              refine wpL_cd (b := !v12) (fun hb => ?_) (fun hb => ?_)
              · replace hk := ct hb hk
                refine wpL_sq (wpL_rg ?_)
                refine pM (.int _ _) ?_
                refine pBd [_, _] t077 tP77 ?_
                refine pSt (xs := [_, _]) hO 1 tZ77 rfl (fun G hO => ?_)
                refine pE (gn (wpL_rt (br (gr (gr (br (gr ?_)))))))
                replace hk := lx hx1 hk
                replace hk := Option.some.inj hk; subst hk; exact finZ hO (fz_agg (n := 2) (fz_c (fz_int _ _) (fz_c (fz_int _ _) (fz_n)))) (resS hO 1 [_, _] tA77 tZ77 resN)
              · replace hk := cf hb hk
                refine wpL_sk (bn (gn (wpL_rg ?_)))
                refine pBi ?_
                refine pM (.int _ _) ?_
                refine pE (gn ?_)
                cases hk; exact ⟨_, rfl, _, _, (Owns.pick hO [1, 2] (by decide) rfl), St.hav _ ⟨rfl, rfl, rfl, rfl, rfl, trivial⟩⟩
            · replace hk := cf hb hk
              refine wpL_ex (ge (ge (be (gn ?_))))
              replace hk := lx hx1 hk
              refine wpL_sq (wpL_sq (wpL_rg ?_))
              refine pF tF81_3 ?_
              refine pLo hO 1 (.lit _ _ _) tA45 ?_
              refine pLen tS45 ?_
              refine pF tF81_2 ?_
              refine pLo hO 1 (.lit _ _ _) tA79 ?_
              refine pLen tS79 ?_
              refine pBi ?_
              refine pE (gn ?_)
              refine wpL_cd (b := ((aP0.Bars.length : Int) != (aP0.Ways.length : Int))) (fun hb => ?_) (fun hb => ?_)
              · replace hk := ct hb hk
                refine wpL_sq (wpL_rg ?_)
                refine pBd [_, _] t077 tP77 ?_
                refine pSt (xs := [_, _]) hO 0 tZ77 rfl (fun G hO => ?_)
                refine pE (gn (wpL_rt (gr ?_)))
                replace hk := Option.some.inj hk; subst hk; exact finZ hO (fz_agg (n := 2) (fz_c (fz_int _ _) (fz_c (fz_int _ _) (fz_n)))) (resS hO 0 [_, _] tA77 tZ77 resN)
              · replace hk := cf hb hk
                refine wpL_sk (gn (wpL_sq (wpL_sq (wpL_rg ?_))))
                refine pF tF81_3 ?_
                refine pLo hO 1 (.lit _ _ _) tA45 ?_
                refine pLen tS45 ?_
                refine pM (.int _ _) ?_
                refine pE (gn (wpL_bl ?_))
                refine wpL_loopO (F := f54_L3 aP0) (fun s S' => ∃ (J : Nat → V) (G : Heap), Owns H G [.blk b2 (.cells 2 [.int .i64 0, .int .i64 0]), .blk b1 (.cells 5 [.int .i64 aP0.Sections, .lit l1 aP0.Switches.length ((flatL 0) aP0.Switches), .lit l2 aP0.Ways.length (flatL m3 aP0.Ways), .lit l4 aP0.Bars.length (flatL m5 aP0.Bars), .int .i64 aP0.Hold])] ∧ S' = ⟨hav [(1, .ptr b1 0), (2, .ptr b2 0), (75, .lit l4 aP0.Bars.length (flatL m5 aP0.Bars)), (76, .int .i64 (aP0.Bars.length : Int)), (77, .int .i64 s)] J, G⟩) hk ⟨_, _, hO, St.hav _ ⟨rfl, rfl, rfl, rfl, rfl, trivial⟩⟩ ?_
                rintro x13 _ y1 ⟨J, G, hO, rfl⟩ hk hx1
                refine wpL_sq (wpL_rg ?_)
                refine pBi ?_
                refine pE (gn (wpL_sq ?_))
                refine wpL_cd (b := decide (x13 < (aP0.Bars.length : Int))) (fun hb => ?_) (fun hb => ?_)
                · replace hk := ct hb hk
                  refine wpL_sk (gn (wpL_sq (wpL_bl (wpL_sq (wpL_rg ?_)))))
                  refine pM (.int _ _) ?_
                  obtain ⟨c14, hc14, hk⟩ := bs hk
                  refine pX hc14 tE45 tZ38 ?_
                  refine pLp (.lit _ _ _) (rd1 (lm := m5) (off := 0) hc14 tA38) ?_
                  refine pA (.int _ _) ?_
                  refine pA (.lit _ _ _) ?_
                  refine pE (gn (wpL_sq (wpL_rg ?_)))
                  refine pM (.lit _ _ _) ?_
                  refine pLen tS38 ?_
                  refine pF tF81_2 ?_
                  refine pLo hO 1 (.lit _ _ _) tA79 ?_
                  refine pLen tS79 ?_
                  refine pBi ?_
                  refine pE (gn ?_)
                  refine wpL_cd (b := ((c14.length : Int) != (aP0.Ways.length : Int))) (fun hb => ?_) (fun hb => ?_)
                  · replace hk := ct hb hk
                    refine wpL_sq (wpL_rg ?_)
                    refine pM (.int _ _) ?_
                    refine pBd [_, _] t077 tP77 ?_
                    refine pSt (xs := [_, _]) hO 0 tZ77 rfl (fun G hO => ?_)
                    refine pE (gn (wpL_rt (br (gr (gr (br (gr ?_)))))))
                    replace hk := lx hx1 hk
                    replace hk := Option.some.inj hk; subst hk; exact finZ hO (fz_agg (n := 2) (fz_c (fz_int _ _) (fz_c (fz_int _ _) (fz_n)))) (resS hO 0 [_, _] tA77 tZ77 resN)
                  · replace hk := cf hb hk
                    refine wpL_sk (bn (gn (wpL_rg ?_)))
                    refine pBi ?_
                    refine pM (.int _ _) ?_
                    refine pE (gn ?_)
                    cases hk; exact ⟨_, rfl, _, _, hO, St.hav _ ⟨rfl, rfl, rfl, rfl, rfl, trivial⟩⟩
                · replace hk := cf hb hk
                  refine wpL_ex (ge (ge (be (gn ?_))))
                  replace hk := lx hx1 hk
                  refine wpL_sq (wpL_sq (wpL_rg ?_))
                  refine pF tF81_2 ?_
                  refine pLo hO 1 (.lit _ _ _) tA79 ?_
                  refine pLen tS79 ?_
                  refine pM (.int _ _) ?_
                  refine pE (gn (wpL_bl ?_))
                  refine wpL_loopO (F := f54_L4 aP0) (fun s S' => ∃ (J : Nat → V) (G : Heap), Owns H G [.blk b2 (.cells 2 [.int .i64 0, .int .i64 0]), .blk b1 (.cells 5 [.int .i64 aP0.Sections, .lit l1 aP0.Switches.length ((flatL 0) aP0.Switches), .lit l2 aP0.Ways.length (flatL m3 aP0.Ways), .lit l4 aP0.Bars.length (flatL m5 aP0.Bars), .int .i64 aP0.Hold])] ∧ S' = ⟨hav [(1, .ptr b1 0), (2, .ptr b2 0), (93, .int .i64 (aP0.Ways.length : Int)), (94, .int .i64 s)] J, G⟩) hk ⟨_, _, hO, St.hav _ ⟨rfl, rfl, rfl, rfl, trivial⟩⟩ ?_
                  rintro x15 _ y1 ⟨J, G, hO, rfl⟩ hk hx1
                  refine wpL_sq (wpL_rg ?_)
                  refine pBi ?_
                  refine pE (gn (wpL_sq ?_))
                  refine wpL_cd (b := decide (x15 < (aP0.Ways.length : Int))) (fun hb => ?_) (fun hb => ?_)
                  · replace hk := ct hb hk
                    refine wpL_sk (gn (wpL_sq (wpL_bl (wpL_sq (wpL_rg ?_)))))
                    refine pM (.int _ _) ?_
                    refine pA (.int _ _) ?_
                    refine pE (gn (wpL_sq (wpL_rg ?_)))
                    refine pF tF81_2 ?_
                    refine pLo hO 1 (.lit _ _ _) tA79 ?_
                    refine pLen tS79 ?_
                    refine pM (.int _ _) ?_
                    refine pE (gn (wpL_bl ?_))
                    refine wpL_loopO (F := f54_L5 aP0 x15) (fun s S' => ∃ (J : Nat → V) (G : Heap), Owns H G [.blk b2 (.cells 2 [.int .i64 0, .int .i64 0]), .blk b1 (.cells 5 [.int .i64 aP0.Sections, .lit l1 aP0.Switches.length ((flatL 0) aP0.Switches), .lit l2 aP0.Ways.length (flatL m3 aP0.Ways), .lit l4 aP0.Bars.length (flatL m5 aP0.Bars), .int .i64 aP0.Hold])] ∧ S' = ⟨hav [(1, .ptr b1 0), (2, .ptr b2 0), (9, .int .i64 x15), (93, .int .i64 (aP0.Ways.length : Int)), (94, .int .i64 x15), (99, .int .i64 (aP0.Ways.length : Int)), (100, .int .i64 s)] J, G⟩) hk ⟨_, _, hO, St.hav _ ⟨rfl, rfl, rfl, rfl, rfl, rfl, rfl, trivial⟩⟩ ?_
                    rintro x16 _ y2 ⟨J, G, hO, rfl⟩ hk hx2
                    refine wpL_sq (wpL_rg ?_)
                    refine pBi ?_
                    refine pE (gn (wpL_sq ?_))
                    refine wpL_cd (b := decide (x16 < (aP0.Ways.length : Int))) (fun hb => ?_) (fun hb => ?_)
                    · replace hk := ct hb hk
                      refine wpL_sk (gn (wpL_sq (wpL_bl (wpL_sq (wpL_rg ?_)))))
                      refine pM (.int _ _) ?_
                      refine pA (.int _ _) ?_
                      refine pE (gn (wpL_sq ?_))
                      refine wpL_drw [(0, true), (1, true), (2, true), (3, true), (4, true), (5, true), (6, true), (7, true), (8, true), (9, true), (10, true), (11, true), (12, true), (13, true), (14, true), (15, true), (16, false), (17, false), (18, false), (19, false), (20, false), (21, false), (22, false), (23, true), (24, true), (25, false), (26, true), (27, true), (28, false), (29, true), (30, false), (31, false), (32, false), (33, true), (34, true), (35, true), (36, true), (37, true), (38, true), (39, true), (40, true), (41, true), (42, true), (43, true), (44, true), (45, false), (46, false), (47, false)] [_, _, _, _, _, _, _, _, _, _, _, _, _, _, _, _, _, _, _, _, _, _, _, _, _, _, _, _, _, _, _, _, _, _, _, _, _, _, _, _, _, _, _, _, _, _, _, _] (by decide +kernel) (by rfl) ?_
                      refine pF tF81_3 ?_
                      refine pLo hO 1 (.lit _ _ _) tA45 ?_
                      refine pM (.int _ _) ?_
                      obtain ⟨c17, hc17, hk⟩ := bs hk
                      refine pX hc17 tE45 tZ38 ?_
                      refine pLp (.lit _ _ _) (rd1 (lm := m5) (off := 0) hc17 tA38) ?_
                      refine pM (.int _ _) ?_
                      obtain ⟨c18, hc18, hk⟩ := bs hk
                      refine pX hc18 tE38 tZ4 ?_
                      refine pLp (.bool _) (rd1 (lm := 0) (off := 0) hc18 tA4) ?_
                      refine pF tF81_3 ?_
                      refine pLo hO 1 (.lit _ _ _) tA45 ?_
                      refine pM (.int _ _) ?_
                      obtain ⟨c19, hc19, hk⟩ := bs hk
                      refine pX hc19 tE45 tZ38 ?_
                      refine pLp (.lit _ _ _) (rd1 (lm := m5) (off := 0) hc19 tA38) ?_
                      refine pM (.int _ _) ?_
                      obtain ⟨c20, hc20, hk⟩ := bs hk
                      refine pX hc20 tE38 tZ4 ?_
                      refine pLp (.bool _) (rd1 (lm := 0) (off := 0) hc20 tA4) ?_
                      refine pBn Try.underlying4 ?_
                      refine pM (.bool _) ?_
                      obtain ⟨t21, ht, hk⟩ := bs hk
                      refine wpR_mid (l1 := [_, _, _, _, _, _, _, _, _, _, _, _, _, _, _, _, _, _, _, _, _, _, _, _, _, _, _, _, _, _]) (fun S' => ∃ J, S' = ⟨hav [(1, .ptr b1 0), (2, .ptr b2 0), (9, .int .i64 x15), (93, .int .i64 (aP0.Ways.length : Int)), (94, .int .i64 x15), (99, .int .i64 (aP0.Ways.length : Int)), (100, .int .i64 x16), (150, .bool t21)] J, G⟩) ?_ ?_
                      · refine bc (b := !(c18 == c20)) (fun hg1 => ?_) (fun hg1 => ?_)
                        · replace hk := ct hg1 ht
                          refine pGn hg1 ?_
                          refine pGn hg1 ?_
                          refine pGn hg1 ?_
                          refine pGn hg1 ?_
                          refine pGu ?_
                          refine pGu ?_
                          refine pGu ?_
                          refine pGu ?_
                          refine pGu ?_
                          refine pGu ?_
                          refine pGu ?_
                          refine pGu ?_
                          refine pGu ?_
                          refine pGn hg1 ?_
                          refine pGn hg1 ?_
                          refine pGu ?_
                          refine pGu ?_
                          refine pGu ?_
                          refine pGu ?_
                          refine pGu ?_
                          refine pGu ?_
                          refine pGu ?_
                          refine pGu ?_
                          refine pGu ?_
                          refine pGu ?_
                          refine pGu ?_
                          refine pGu ?_
                          refine pGu ?_
                          refine pGn hg1 ?_
                          refine pPt hg1 (.bool _) ?_
                          cases hk; exact pE ⟨_, St.hav _ ⟨rfl, rfl, rfl, rfl, rfl, rfl, rfl, rfl, trivial⟩⟩
                        · replace hk := cf hg1 ht
                          refine pGy hg1 ?_
                          refine pM (.int _ _) ?_
                          refine pGy hg1 ?_
                          refine pM (.int _ _) ?_
                          refine pGy hg1 ?_
                          refine pBi ?_
                          refine pGy hg1 ?_
                          refine pM (.bool _) ?_
                          obtain ⟨t22, ht, hk⟩ := bs hk
                          refine wpR_mid (l1 := [_, _, _, _, _, _, _, _, _, _]) (fun S' => ∃ J, S' = ⟨hav [(1, .ptr b1 0), (2, .ptr b2 0), (9, .int .i64 x15), (10, .int .i64 x16), (93, .int .i64 (aP0.Ways.length : Int)), (94, .int .i64 x15), (99, .int .i64 (aP0.Ways.length : Int)), (100, .int .i64 x16), (120, .bool (!(c18 == c20))), (134, .bool t22)] J, G⟩) ?_ ?_
                          · refine bc (b := (x15 != x16)) (fun hg2 => ?_) (fun hg2 => ?_)
                            · replace hk := ct hg2 ht
                              refine pGy hg2 ?_
                              refine pF tF81_3 ?_
                              refine pGy hg2 ?_
                              refine pLo hO 1 (.lit _ _ _) tA45 ?_
                              refine pGy hg2 ?_
                              refine pM (.int _ _) ?_
                              refine pGy hg2 ?_
                              obtain ⟨c23, hc23, hk⟩ := bs hk
                              refine pX hc23 tE45 tZ38 ?_
                              refine pGy hg2 ?_
                              refine pLp (.lit _ _ _) (rd1 (lm := m5) (off := 0) hc23 tA38) ?_
                              refine pGy hg2 ?_
                              refine pM (.int _ _) ?_
                              refine pGy hg2 ?_
                              obtain ⟨c24, hc24, hk⟩ := bs hk
                              refine pX hc24 tE38 tZ4 ?_
                              refine pGy hg2 ?_
                              refine pLp (.bool _) (rd1 (lm := 0) (off := 0) hc24 tA4) ?_
                              refine pGy hg2 ?_
                              refine pU ?_
                              refine pGy hg1 ?_
                              refine pPt hg2 (.bool _) ?_
                              cases hk; exact pE ⟨_, St.hav _ ⟨rfl, rfl, rfl, rfl, rfl, rfl, rfl, rfl, rfl, rfl, trivial⟩⟩
                            · replace hk := cf hg2 ht
                              refine pGn hg2 ?_
                              refine pGn hg2 ?_
                              refine pGn hg2 ?_
                              refine pGn hg2 ?_
                              refine pGn hg2 ?_
                              refine pGn hg2 ?_
                              refine pGn hg2 ?_
                              refine pGn hg2 ?_
                              refine pGn hg2 ?_
                              refine pGy hg1 ?_
                              refine pPf hg2 (.bool _) ?_
                              cases hk; exact pE ⟨_, St.hav _ ⟨rfl, rfl, rfl, rfl, rfl, rfl, rfl, rfl, rfl, rfl, trivial⟩⟩
                          · rintro _ ⟨J, rfl⟩
                            refine pGy hg1 ?_
                            refine pM (.bool _) ?_
                            obtain ⟨t25, ht, hk⟩ := bs hk
                            refine wpR_mid (l1 := [_, _, _, _, _, _, _, _, _, _, _, _, _, _]) (fun S' => ∃ J, S' = ⟨hav [(1, .ptr b1 0), (2, .ptr b2 0), (9, .int .i64 x15), (93, .int .i64 (aP0.Ways.length : Int)), (94, .int .i64 x15), (99, .int .i64 (aP0.Ways.length : Int)), (100, .int .i64 x16), (120, .bool (!(c18 == c20))), (149, .bool t25)] J, G⟩) ?_ ?_
                            · refine bc (b := t22) (fun hg2 => ?_) (fun hg2 => ?_)
                              · replace hk := ct hg2 ht
                                refine pGy hg2 ?_
                                refine pF tF81_2 ?_
                                refine pGy hg2 ?_
                                refine pLo hO 1 (.lit _ _ _) tA79 ?_
                                refine pGy hg2 ?_
                                refine pM (.int _ _) ?_
                                refine pGy hg2 ?_
                                obtain ⟨c26, hc26, hk⟩ := bs hk
                                refine pX hc26 tE79 tZ218 ?_
                                refine pGy hg2 ?_
                                refine pF tF218_0 ?_
                                refine pGy hg2 ?_
                                refine pLp (.lit _ _ _) (rd1 (lm := m3) (off := 0) hc26 tA26) ?_
                                refine pGy hg2 ?_
                                refine pF tF81_2 ?_
                                refine pGy hg2 ?_
                                refine pLo hO 1 (.lit _ _ _) tA79 ?_
                                refine pGy hg2 ?_
                                refine pM (.int _ _) ?_
                                refine pGy hg2 ?_
                                obtain ⟨c27, hc27, hk⟩ := bs hk
                                refine pX hc27 tE79 tZ218 ?_
                                refine pGy hg2 ?_
                                refine pF tF218_0 ?_
                                refine pGy hg2 ?_
                                refine pLp (.lit _ _ _) (rd1 (lm := m3) (off := 0) hc27 tA26) ?_
                                refine pGy hg2 ?_
                                obtain ⟨v28, hv28, hk⟩ := bs hk
                                refine pCall (fun _ => f173_run hv28) ?_
                                refine pGy hg1 ?_
                                refine pPt hg2 (.bool _) ?_
                                cases hk; exact pE ⟨_, St.hav _ ⟨rfl, rfl, rfl, rfl, rfl, rfl, rfl, rfl, rfl, trivial⟩⟩
                              · replace hk := cf hg2 ht
                                refine pGn hg2 ?_
                                refine pGn hg2 ?_
                                refine pGn hg2 ?_
                                refine pGn hg2 ?_
                                refine pGn hg2 ?_
                                refine pGn hg2 ?_
                                refine pGn hg2 ?_
                                refine pGn hg2 ?_
                                refine pGn hg2 ?_
                                refine pGn hg2 ?_
                                refine pGn hg2 ?_
                                refine pGn hg2 ?_
                                refine pGn hg2 ?_
                                refine pGy hg1 ?_
                                refine pPf hg2 (.bool _) ?_
                                cases hk; exact pE ⟨_, St.hav _ ⟨rfl, rfl, rfl, rfl, rfl, rfl, rfl, rfl, rfl, trivial⟩⟩
                            · rintro _ ⟨J, rfl⟩
                              refine pPf hg1 (.bool _) ?_
                              cases hk; exact pE ⟨_, St.hav _ ⟨rfl, rfl, rfl, rfl, rfl, rfl, rfl, rfl, trivial⟩⟩
                      · rintro _ ⟨J, rfl⟩
                        refine pE (gn ?_)
                        refine wpL_cd (b := t21) (fun hb => ?_) (fun hb => ?_)
                        · replace hk := ct hb hk
                          refine wpL_sq (wpL_rg ?_)
                          refine pM (.int _ _) ?_
                          refine pBd [_, _] t077 tP77 ?_
                          refine pSt (xs := [_, _]) hO 0 tZ77 rfl (fun G hO => ?_)
                          refine pE (gn (wpL_rt (br (gr (gr (br (br (gr (gr (br (gr ?_)))))))))))
                          replace hk := lx hx2 hk
                          replace hk := lx hx1 hk
                          replace hk := Option.some.inj hk; subst hk; exact finZ hO (fz_agg (n := 2) (fz_c (fz_int _ _) (fz_c (fz_int _ _) (fz_n)))) (resS hO 0 [_, _] tA77 tZ77 resN)
                        · replace hk := cf hb hk
                          refine wpL_sk (bn (gn (wpL_rg ?_)))
                          refine pBi ?_
                          refine pM (.int _ _) ?_
                          refine pE (gn ?_)
                          cases hk; exact ⟨_, rfl, _, _, hO, St.hav _ ⟨rfl, rfl, rfl, rfl, rfl, rfl, rfl, trivial⟩⟩
                    · replace hk := cf hb hk
                      refine wpL_ex (ge (ge (be (bn (gn ?_)))))
                      replace hk := lx hx2 hk
                      refine wpL_rg ?_
                      refine pBi ?_
                      refine pM (.int _ _) ?_
                      refine pE (gn ?_)
                      cases hk; exact ⟨_, rfl, _, _, hO, St.hav _ ⟨rfl, rfl, rfl, rfl, trivial⟩⟩
                  · replace hk := cf hb hk
                    refine wpL_ex (ge (ge (be (gn ?_))))
                    replace hk := lx hx1 hk
                    refine wpL_sq (wpL_rg ?_)
                    refine pBd [_, _] t077 tP77 ?_
                    refine pSt (xs := [_, _]) hO 0 tZ77 rfl (fun G hO => ?_)
                    refine pE (gn (wpL_rt ?_))
                    replace hk := Option.some.inj hk; subst hk; exact finZ hO (fz_agg (n := 2) (fz_c (fz_int _ _) (fz_c (fz_int _ _) (fz_n)))) (resS hO 0 [_, _] tA77 tZ77 resN)
/-- impl.planOk -/
def f177 (aP0 : Plan) : Option Bool :=
  ((f54 aP0).bind fun v2 => some ((v2.Code == 0) && ((v2.At == 0) && true)))
theorem f177_run {aP0 : Plan} {r : Bool} {l1 l2 m3 l4 m5 : Nat} {H : Heap} {lk : Lk} (hk : f177 aP0 = some r) (hlk : 0 < lk.length := by simp) : runL Try.prog hh 177 [.agg [.int .i64 aP0.Sections, .lit l1 aP0.Switches.length ((flatL 0) aP0.Switches), .lit l2 aP0.Ways.length (flatL m3 aP0.Ways), .lit l4 aP0.Bars.length (flatL m5 aP0.Bars), .int .i64 aP0.Hold]] H lk = some (.bool r, H) := by
  refine run_start Try.func177 rfl Try.ntmps177 Try.results177 rfl rfl fun hO => ?_
  unfold f177 at hk
  refine wpL_sq (wpL_rg ?_)
  refine pBox (cs := [_, _, _, _, _]) hO tZ81 (fun b1 G hO => ?_)
  refine pA (.bool _) ?_
  refine pE (gn (wpL_sq (wpL_rg ?_)))
  refine pLs hO 0 [_, _, _, _, _] tA81 tZ81 ?_
  obtain ⟨v2, hv2, hk⟩ := bs hk
  refine pCall (fun _ => f54_run hv2) ?_
  refine pBd [_, _] t077 tP77 ?_
  refine pGq tG77 (eqc (eqi _ _ _) (eqc (eqi _ _ _) (rfl))) ?_
  refine pA (.bool _) ?_
  refine pE (gn (wpL_rt ?_))
  replace hk := Option.some.inj hk; subst hk; exact fin0 hO
/-- impl.idle -/
def f208 (aW0 : Way) : Option Held :=
  ((makeB 1 (aW0.Sections.length : Int)).bind fun m3 => some ({ State := 0, Gone := 0, Been := List.replicate m3 (false : Bool), Shown := false, Timer := 0 } : Held))
theorem f208_run {aW0 : Way} {r : Held} {l1 l2 l3 l4 l5 : Nat} {H : Heap} {lk : Lk} (hk : f208 aW0 = some r) (hlk : 0 < lk.length := by simp) : ∃ v H1, runL Try.prog hh 208 [.agg [.lit l1 aW0.Sections.length ((flatL 0) aW0.Sections), .lit l2 aW0.Lies.length ((flatL 0) aW0.Lies), .lit l3 aW0.Flanks.length ((flatL 0) aW0.Flanks), .lit l4 aW0.Over.length ((flatL 0) aW0.Over), .lit l5 aW0.Near.length ((flatL 0) aW0.Near)]] H lk = some (v, H1) ∧ FreshS H r v H1 := by
  refine run_startR Try.func208 rfl Try.ntmps208 Try.results208 rfl rfl ?_
  have hO := Owns.nil H
  unfold f208 at hk
  refine wpL_sq (wpL_rg ?_)
  refine pBox (cs := [_, _, _, _, _]) hO tZ218 (fun b1 G hO => ?_)
  refine pNew hO tZ247 t0247 (fun b2 G hO => ?_)
  refine pE (gn (wpL_sq (wpL_rg ?_)))
  refine pF tF218_0 ?_
  refine pLo hO 1 (.lit _ _ _) tA26 ?_
  refine pLen tS26 ?_
  obtain ⟨m3, hm3, hk⟩ := bs hk
  refine pMk hO hm3 (false : Bool) tE38 tZ4 tB4 t04 (fun b4 G hO => ?_)
  refine pBd [_, _, _, _, _] t0247 tP247 ?_
  refine pSt (xs := [_, _, _, _, _]) hO 1 tZ247 rfl (fun G hO => ?_)
  refine pE (gn (wpL_rt ?_))
  replace hk := Option.some.inj hk; subst hk; exact finThS hO (th_Held (x := ({ State := 0, Gone := 0, Been := List.replicate m3 (false : Bool), Shown := false, Timer := 0 } : Held)) (th_pair (c1 := [_]) (th_int 0) (th_pair (c1 := [_]) (th_int 0) (th_pair (c1 := [_]) (th_made (xs := (List.replicate m3 (false : Bool))) List.length_replicate hlk 0) (th_pair (c1 := [_]) (th_bool false) (th_int 0)))))) (resS hO 1 [_, _, _, _, _] tA247 tZ247 resN)
/-- impl.BeginFrame -/
def f91_L2 (aP0 : Plan) (m4 : Nat) : ((List Point) × (List Held) × Int) → Option (((List Point) × (List Held) × Int) ⊕ Frame) := fun s =>
  (bif decide (s.2.2 < (aP0.Ways.length : Int)) then ((getI aP0.Ways s.2.2).bind fun c17 => ((f208 c17).bind fun v19 => ((appB 56 s.2.1 [v19]).bind fun z23 => some (.inl (s.1, z23, w64 (s.2.2 + (1:Int))))))) else ((some ({ Ok := true, Occ := List.replicate m4 (false : Bool), Points := s.1, Ways := s.2.1 } : Frame)).map Sum.inr))
def f91_L1 (aP0 : Plan) (m4 : Nat) : ((List Point) × Int) → Option (((List Point) × Int) ⊕ Frame) := fun s =>
  (bif decide (s.2 < (aP0.Switches.length : Int)) then ((appB 16 s.1 ([({ Want := (1:Int), Lies := (1:Int) } : Point)] : List Point)).bind fun z10 => some (.inl (z10, w64 (s.2 + (1:Int))))) else ((loopO (f91_L2 aP0 m4) (s.1, ([] : List Held), (0:Int))).map Sum.inr))
def f91 (aP0 : Plan) : Option Frame :=
  ((f177 aP0).bind fun v3 => (bif !v3 then some ({ Ok := false, Occ := ([] : List Bool), Points := ([] : List Point), Ways := ([] : List Held) } : Frame) else ((makeB 1 aP0.Sections).bind fun m4 => (loopO (f91_L1 aP0 m4) (([] : List Point), (0:Int))))))
theorem f91_run {aP0 : Plan} {r : Frame} {l1 l2 m3 l4 m5 : Nat} {H : Heap} {lk : Lk} (hk : f91 aP0 = some r) (hlk : 0 < lk.length := by simp) : ∃ v H1, runL Try.prog hh 91 [.agg [.int .i64 aP0.Sections, .lit l1 aP0.Switches.length ((flatL 0) aP0.Switches), .lit l2 aP0.Ways.length (flatL m3 aP0.Ways), .lit l4 aP0.Bars.length (flatL m5 aP0.Bars), .int .i64 aP0.Hold]] H lk = some (v, H1) ∧ FreshS H r v H1 := by
  refine run_startR Try.func91 rfl Try.ntmps91 Try.results91 rfl rfl ?_
  have hO := Owns.nil H
  unfold f91 at hk
  refine wpL_sq (wpL_rg ?_)
  refine pBox (cs := [_, _, _, _, _]) hO tZ81 (fun b1 G hO => ?_)
  refine pNew hO tZ148 t0148 (fun b2 G hO => ?_)
  refine pE (gn (wpL_sq (wpL_sq (wpL_rg ?_))))
  refine pLs hO 1 [_, _, _, _, _] tA81 tZ81 ?_
  obtain ⟨v3, hv3, hk⟩ := bs hk
  refine pCall (fun _ => f177_run hv3) ?_
  refine pU ?_
  refine pE (gn ?_)
  refine wpL_cd (b := !v3) (fun hb => ?_) (fun hb => ?_)
  · replace hk := ct hb hk
    refine wpL_sq (wpL_rg ?_)
    refine pBd [_, _, _, _] t0148 tP148 ?_
    refine pSt (xs := [_, _, _, _]) hO 0 tZ148 rfl (fun G hO => ?_)
    refine pE (gn (wpL_rt (gr ?_)))
    replace hk := Option.some.inj hk; subst hk; exact finThS hO (th_Frame (x := ({ Ok := false, Occ := ([] : List Bool), Points := ([] : List Point), Ways := ([] : List Held) } : Frame)) (th_pair (c1 := [_]) (th_bool false) (th_pair (c1 := [_]) (th_nil Bool) (th_pair (c1 := [_]) (th_nil Point) (th_nil Held))))) (resS hO 0 [_, _, _, _] tA148 tZ148 resN)
  · replace hk := cf hb hk
    refine wpL_sk (gn (wpL_sq (wpL_rg ?_)))
    refine pF tF81_0 ?_
    refine pLo hO 1 (.int _ _) tA3 ?_
    obtain ⟨m4, hm4, hk⟩ := bs hk
    refine pMk hO hm4 (false : Bool) tE38 tZ4 tB4 t04 (fun b5 G hO => ?_)
    refine pBd [_, _, _, _] t0148 tP148 ?_
    refine pNew hO tZ148 t0148 (fun b6 G hO => ?_)
    refine pSt (xs := [_, _, _, _]) hO 0 tZ148 rfl (fun G hO => ?_)
    refine pE (gn (wpL_sq (wpL_sq (wpL_rg ?_))))
    refine pF tF81_1 ?_
    refine pLo hO 3 (.lit _ _ _) tA26 ?_
    refine pLen tS26 ?_
    refine pM (.int _ _) ?_
    refine pE (gn (wpL_bl ?_))
    refine wpL_loopO (F := f91_L1 aP0 m4) (fun s S' => ∃ (o7 : V) (J : Nat → V) (G : Heap), Nz o7 ∧ Owns H G [.own o7 lk.length 2 s.1.length ((flatL 0) s.1), .blk b6 (.cells 4 [.bool true, .sl b5 0 m4, o7, (.tl 0 [])]), .blk b5 (.cells 1 ((flatL 0) (List.replicate m4 (false : Bool)))), .blk b2 (.cells 4 [.bool false, (.tl 0 []), (.tl 0 []), (.tl 0 [])]), .blk b1 (.cells 5 [.int .i64 aP0.Sections, .lit l1 aP0.Switches.length ((flatL 0) aP0.Switches), .lit l2 aP0.Ways.length (flatL m3 aP0.Ways), .lit l4 aP0.Bars.length (flatL m5 aP0.Bars), .int .i64 aP0.Hold])] ∧ S' = ⟨hav [(1, .ptr b1 0), (2, .ptr b2 0), (3, .ptr b6 0), (16, .int .i64 (aP0.Switches.length : Int)), (17, .int .i64 s.2)] J, G⟩) hk ⟨(.tl 0 []), _, _, Nz.nil, (Owns.addTl hO lk.length ([] : List Point)), St.hav _ ⟨rfl, rfl, rfl, rfl, rfl, trivial⟩⟩ ?_
    rintro ⟨x7, x9⟩ _ y1 ⟨o7, J, G, hno7, hO, rfl⟩ hk hx1
    refine wpL_sq (wpL_rg ?_)
    refine pBi ?_
    refine pE (gn (wpL_sq ?_))
    refine wpL_cd (b := decide (x9 < (aP0.Switches.length : Int))) (fun hb => ?_) (fun hb => ?_)
    · replace hk := ct hb hk
      refine wpL_sk (gn (wpL_sq (wpL_bl (wpL_rg ?_))))
      refine pF tF148_2 ?_
      refine pLo hO 1 o7 tA145 ?_
      refine pBd [_, _] t0245 tP245 ?_
      refine pBs (ps := [(0, (.agg [_, _]))]) ([({ Want := (1:Int), Lies := (1:Int) } : Point)] : List Point) tE145 tZ245 t0245 (emb_cons (embx_agg (α := Point) ({ Want := (1:Int), Lies := (1:Int) } : Point)) (emb_nil)) ?_
      obtain ⟨z10, hz10, hk⟩ := bs hk
      refine pAp (xs := x7) hO 0 hz10 (bears_tl ([({ Want := (1:Int), Lies := (1:Int) } : Point)] : List Point)) tE145 tZ245 tB245 t0245 tE145 rfl (fun o10 G hno10 hO => ?_)
      replace hno10 := hno10 hno7
      refine pF tF148_2 ?_
      have hc11 := own_cells hO (j := 0) rfl
      refine pSt (xs := [_]) hO 1 tZ145 rfl (fun G hO => ?_) (h3 := hc11.1) (h6 := one_cell hc11.2)
      refine pE (bn (gn (wpL_rg ?_)))
      refine pBi ?_
      refine pM (.int _ _) ?_
      refine pE (gn ?_)
      cases hk; exact ⟨_, rfl, o10, _, _, hno10, hO, St.hav _ ⟨rfl, rfl, rfl, rfl, rfl, trivial⟩⟩
    · replace hk := cf hb hk
      refine wpL_ex (ge (ge (be (gn ?_))))
      replace hk := lx hx1 hk
      refine wpL_sq (wpL_sq (wpL_rg ?_))
      refine pF tF81_2 ?_
      refine pLo hO 4 (.lit _ _ _) tA79 ?_
      refine pLen tS79 ?_
      refine pM (.int _ _) ?_
      refine pE (gn (wpL_bl ?_))
      refine wpL_loopO (F := f91_L2 aP0 m4) (fun s S' => ∃ (o12 : V) (o14 : V) (F15 : List Nat) (J : Nat → V) (G : Heap), Nz o12 ∧ Owns H G [.own o12 lk.length 2 s.1.length ((flatL 0) s.1), Ap H lk.length F15 s.2.1 o14, .blk b6 (.cells 4 [.bool true, .sl b5 0 m4, o12, o14]), .blk b5 (.cells 1 ((flatL 0) (List.replicate m4 (false : Bool)))), .blk b2 (.cells 4 [.bool false, (.tl 0 []), (.tl 0 []), (.tl 0 [])])] ∧ S' = ⟨hav [(2, .ptr b2 0), (3, .ptr b6 0), (27, .lit l2 aP0.Ways.length (flatL m3 aP0.Ways)), (28, .int .i64 (aP0.Ways.length : Int)), (29, .int .i64 s.2.2)] J, G⟩) hk ⟨o7, (.tl 0 []), [], _, _, hno7, (Owns.pick (Owns.addAp hO Held lk.length) [1, 0, 2, 3, 4] (by decide) rfl), St.hav _ ⟨rfl, rfl, rfl, rfl, rfl, trivial⟩⟩ ?_
      rintro ⟨x12, x14, x16⟩ _ y1 ⟨o12, o14, F15, J, G, hno12, hO, rfl⟩ hk hx1
      refine wpL_sq (wpL_rg ?_)
      refine pBi ?_
      refine pE (gn (wpL_sq ?_))
      refine wpL_cd (b := decide (x16 < (aP0.Ways.length : Int))) (fun hb => ?_) (fun hb => ?_)
      · replace hk := ct hb hk
        refine wpL_sk (gn (wpL_sq (wpL_bl (wpL_sq (wpL_rg ?_)))))
        obtain ⟨c17, hc17, hk⟩ := bs hk
        refine pX hc17 tE79 tZ218 ?_
        refine pLp (.agg [_, _, _, _, _]) (rd2 (lm := m3) (off := 0) hc17 tA218 tZ218) ?_
        refine pNew hO tZ218 t0218 (fun b18 G hO => ?_)
        refine pSt (xs := [_, _, _, _, _]) hO 0 tZ218 rfl (fun G hO => ?_)
        refine pE (gn ?_)
        refine wpL_drw [(0, true), (1, true), (2, true), (3, true), (4, true), (5, false), (6, false), (7, false)] [_, _, _, _, _, _, _, _] (by decide +kernel) (by rfl) ?_
        refine pF tF148_3 ?_
        refine pLo hO 3 o14 tA146 ?_
        refine pLs hO 0 [_, _, _, _, _] tA218 tZ218 ?_
        obtain ⟨v19, hv19, hk⟩ := bs hk
        refine pCNs hO (fun _ => f208_run hv19) (fun u20 F20 G hO => ?_)
        have hc21 := tr_cells hO (j := 0) rfl
        refine pBs1 (ce := u20) tE146 tZ247 t0247 rfl hc21.1 hc21.2 ?_
        obtain ⟨hO, hce22⟩ := Owns.prom hO lk.length
        obtain ⟨z23, hz23, hk⟩ := bs hk
        refine pApA hO 2 hz23 hce22.1 hce22.2 tE146 tZ247 tB247 t0247 tE146 rfl (fun o23 F24 G hO => ?_)
        refine pF tF148_3 ?_
        have hc25 := ap_cells hO (j := 2) rfl
        refine pSt (xs := [_]) hO 3 tZ146 rfl (fun G hO => ?_) (h3 := hc25.1) (h6 := one_cell hc25.2)
        refine pE (bn (gn (wpL_rg ?_)))
        refine pBi ?_
        refine pM (.int _ _) ?_
        refine pE (gn ?_)
        cases hk; exact ⟨_, rfl, o12, o23, F24, _, _, hno12, (Owns.pick hO [1, 2, 3, 4, 5] (by decide) rfl), St.hav _ ⟨rfl, rfl, rfl, rfl, rfl, trivial⟩⟩
      · replace hk := cf hb hk
        refine wpL_ex (ge (ge (be (gn ?_))))
        replace hk := lx hx1 hk
        refine wpL_sq (wpL_rg ?_)
        refine pLs hO 2 [_, _, _, _] tA148 tZ148 ?_
        have hc26 := own_cells hO (j := 0) rfl
        have hc27 := ap_cells hO (j := 1) rfl
        refine pSt (xs := [_, _, _, _]) hO 4 tZ148 rfl (fun G hO => ?_) (h6 := (all_c rfl (all_c rfl (all_c hc26.2 (all_c hc27.2 all_n)))))
        refine pE (gn (wpL_rt ?_))
        replace hk := Option.some.inj hk; subst hk; exact finThS hO (th_Frame (x := ({ Ok := true, Occ := List.replicate m4 (false : Bool), Points := x12, Ways := x14 } : Frame)) (th_pair (c1 := [_]) (th_bool true) (th_pair (c1 := [_]) (th_made (xs := (List.replicate m4 (false : Bool))) List.length_replicate hlk 3) (th_pair (c1 := [_]) (th_own (xs := x12) hno12 hlk 0) (th_ap (xs := x14) hlk 0))))) (resS hO 4 [_, _, _, _] tA148 tZ148 resN)
/-- laws.eqBoolS -/
def f133_L1 (aA0 : List Bool) (aB1 : List Bool) : Int → Option (Int ⊕ Bool) := fun s =>
  (bif decide (s < (aA0.length : Int)) then ((getI aA0 s).bind fun c2 => ((getI aB1 s).bind fun c3 => (bif !(c2 == c3) then ((some false).map Sum.inr) else some (.inl (w64 (s + (1:Int))))))) else ((some true).map Sum.inr))
def f133 (aA0 : List Bool) (aB1 : List Bool) : Option Bool :=
  (bif ((aA0.length : Int) != (aB1.length : Int)) then some false else (loopO (f133_L1 aA0 aB1) ((0:Int))))
theorem f133_run {aA0 : List Bool} {aB1 : List Bool} {r : Bool} {l1 l2 : Nat} {H : Heap} {lk : Lk} (hk : f133 aA0 aB1 = some r) (hlk : 0 < lk.length := by simp) : runL Try.prog hh 133 [.lit l1 aA0.length ((flatL 0) aA0), .lit l2 aB1.length ((flatL 0) aB1)] H lk = some (.bool r, H) := by
  refine run_start Try.func133 rfl Try.ntmps133 Try.results133 rfl rfl fun hO => ?_
  unfold f133 at hk
  refine wpL_sq (wpL_rg ?_)
  refine pA (.bool _) ?_
  refine pE (gn (wpL_sq (wpL_sq (wpL_rg ?_))))
  refine pM (.lit _ _ _) ?_
  refine pLen tS38 ?_
  refine pM (.lit _ _ _) ?_
  refine pLen tS38 ?_
  refine pBi ?_
  refine pE (gn ?_)
  refine wpL_cd (b := ((aA0.length : Int) != (aB1.length : Int))) (fun hb => ?_) (fun hb => ?_)
  · replace hk := ct hb hk
    refine wpL_sq (wpL_rg ?_)
    refine pA (.bool _) ?_
    refine pE (gn (wpL_rt (gr ?_)))
    replace hk := Option.some.inj hk; subst hk; exact fin0 hO
  · replace hk := cf hb hk
    refine wpL_sk (gn (wpL_sq (wpL_sq (wpL_rg ?_))))
    refine pA (.int _ _) ?_
    refine pE (gn (wpL_bl ?_))
    refine wpL_loopO (F := f133_L1 aA0 aB1) (fun s S' => ∃ (J : Nat → V) (G : Heap), Owns H G [] ∧ S' = ⟨hav [(0, .lit l1 aA0.length ((flatL 0) aA0)), (1, .lit l2 aB1.length ((flatL 0) aB1)), (5, .int .i64 s)] J, G⟩) hk ⟨_, _, hO, St.hav _ ⟨rfl, rfl, rfl, trivial⟩⟩ ?_
    rintro x1 _ y1 ⟨J, G, hO, rfl⟩ hk hx1
    refine wpL_sq (wpL_sq (wpL_rg ?_))
    refine pM (.int _ _) ?_
    refine pM (.lit _ _ _) ?_
    refine pLen tS38 ?_
    refine pBi ?_
    refine pE (gn ?_)
    refine wpL_cd (b := decide (x1 < (aA0.length : Int))) (fun hb => ?_) (fun hb => ?_)
    · replace hk := ct hb hk
      refine wpL_sk (gn (wpL_sq (wpL_bl (wpL_sq ?_))))
      refine wpL_drw [(0, true), (1, true), (2, true), (3, true), (4, true), (5, true), (6, true), (7, true), (8, false)] [_, _, _, _, _, _, _, _, _] (by decide +kernel) (by rfl) ?_
      refine pM (.lit _ _ _) ?_
      refine pM (.int _ _) ?_
      obtain ⟨c2, hc2, hk⟩ := bs hk
      refine pX hc2 tE38 tZ4 ?_
      refine pLp (.bool _) (rd1 (lm := 0) (off := 0) hc2 tA4) ?_
      refine pM (.lit _ _ _) ?_
      refine pM (.int _ _) ?_
      obtain ⟨c3, hc3, hk⟩ := bs hk
      refine pX hc3 tE38 tZ4 ?_
      refine pLp (.bool _) (rd1 (lm := 0) (off := 0) hc3 tA4) ?_
      refine pBn Try.underlying4 ?_
      refine pE (gn ?_)
      refine wpL_cd (b := !(c2 == c3)) (fun hb => ?_) (fun hb => ?_)
      · replace hk := ct hb hk
        refine wpL_sq (wpL_rg ?_)
        refine pA (.bool _) ?_
        refine pE (gn (wpL_rt (br (gr (gr (br (gr ?_)))))))
        replace hk := lx hx1 hk
        replace hk := Option.some.inj hk; subst hk; exact fin0 hO
      · replace hk := cf hb hk
        refine wpL_sk (bn (gn (wpL_rg ?_)))
        refine pM (.int _ _) ?_
        refine pBi ?_
        refine pA (.int _ _) ?_
        refine pE (gn ?_)
        cases hk; exact ⟨_, rfl, _, _, hO, St.hav _ ⟨rfl, rfl, rfl, trivial⟩⟩
    · replace hk := cf hb hk
      refine wpL_ex (ge (ge (be (gn ?_))))
      replace hk := lx hx1 hk
      refine wpL_sq (wpL_rg ?_)
      refine pA (.bool _) ?_
      refine pE (gn (wpL_rt ?_))
      replace hk := Option.some.inj hk; subst hk; exact fin0 hO
/-- laws.eqPoint -/
def f299 (aA0 : Point) (aB1 : Point) : Option Bool :=
  (bif (aA0.Want != aB1.Want) then some false else (bif (aA0.Lies != aB1.Lies) then some false else some true))
theorem f299_run {aA0 : Point} {aB1 : Point} {r : Bool} {H : Heap} {lk : Lk} (hk : f299 aA0 aB1 = some r) (hlk : 0 < lk.length := by simp) : runL Try.prog hh 299 [.agg [.int .i64 aA0.Want, .int .i64 aA0.Lies], .agg [.int .i64 aB1.Want, .int .i64 aB1.Lies]] H lk = some (.bool r, H) := by
  refine run_start Try.func299 rfl Try.ntmps299 Try.results299 rfl rfl fun hO => ?_
  unfold f299 at hk
  refine wpL_sq (wpL_rg ?_)
  refine pBox (cs := [_, _]) hO tZ245 (fun b1 G hO => ?_)
  refine pBox (cs := [_, _]) hO tZ245 (fun b2 G hO => ?_)
  refine pA (.bool _) ?_
  refine pE (gn (wpL_sq (wpL_sq (wpL_rg ?_))))
  refine pF tF245_0 ?_
  refine pLo hO 1 (.int _ _) tA3 ?_
  refine pF tF245_0 ?_
  refine pLo hO 0 (.int _ _) tA3 ?_
  refine pBi ?_
  refine pE (gn ?_)
  refine wpL_cd (b := (aA0.Want != aB1.Want)) (fun hb => ?_) (fun hb => ?_)
  · replace hk := ct hb hk
    refine wpL_sq (wpL_rg ?_)
    refine pA (.bool _) ?_
    refine pE (gn (wpL_rt (gr ?_)))
    replace hk := Option.some.inj hk; subst hk; exact fin0 hO
  · replace hk := cf hb hk
    refine wpL_sk (gn (wpL_sq (wpL_sq (wpL_rg ?_))))
    refine pF tF245_1 ?_
    refine pLo hO 1 (.int _ _) tA3 ?_
    refine pF tF245_1 ?_
    refine pLo hO 0 (.int _ _) tA3 ?_
    refine pBi ?_
    refine pE (gn ?_)
    refine wpL_cd (b := (aA0.Lies != aB1.Lies)) (fun hb => ?_) (fun hb => ?_)
    · replace hk := ct hb hk
      refine wpL_sq (wpL_rg ?_)
      refine pA (.bool _) ?_
      refine pE (gn (wpL_rt (gr ?_)))
      replace hk := Option.some.inj hk; subst hk; exact fin0 hO
    · replace hk := cf hb hk
      refine wpL_sk (gn (wpL_sq (wpL_rg ?_)))
      refine pA (.bool _) ?_
      refine pE (gn (wpL_rt ?_))
      replace hk := Option.some.inj hk; subst hk; exact fin0 hO
/-- laws.eqPointS -/
def f209_L1 (aA0 : List Point) (aB1 : List Point) : Int → Option (Int ⊕ Bool) := fun s =>
  (bif decide (s < (aA0.length : Int)) then ((getI aA0 s).bind fun c2 => ((getI aB1 s).bind fun c3 => ((f299 c2 c3).bind fun v4 => (bif !v4 then ((some false).map Sum.inr) else some (.inl (w64 (s + (1:Int)))))))) else ((some true).map Sum.inr))
def f209 (aA0 : List Point) (aB1 : List Point) : Option Bool :=
  (bif ((aA0.length : Int) != (aB1.length : Int)) then some false else (loopO (f209_L1 aA0 aB1) ((0:Int))))
theorem f209_run {aA0 : List Point} {aB1 : List Point} {r : Bool} {l1 l2 : Nat} {H : Heap} {lk : Lk} (hk : f209 aA0 aB1 = some r) (hlk : 0 < lk.length := by simp) : runL Try.prog hh 209 [.lit l1 aA0.length ((flatL 0) aA0), .lit l2 aB1.length ((flatL 0) aB1)] H lk = some (.bool r, H) := by
  refine run_start Try.func209 rfl Try.ntmps209 Try.results209 rfl rfl fun hO => ?_
  unfold f209 at hk
  refine wpL_sq (wpL_rg ?_)
  refine pA (.bool _) ?_
  refine pE (gn (wpL_sq (wpL_sq (wpL_rg ?_))))
  refine pM (.lit _ _ _) ?_
  refine pLen tS145 ?_
  refine pM (.lit _ _ _) ?_
  refine pLen tS145 ?_
  refine pBi ?_
  refine pE (gn ?_)
  refine wpL_cd (b := ((aA0.length : Int) != (aB1.length : Int))) (fun hb => ?_) (fun hb => ?_)
  · replace hk := ct hb hk
    refine wpL_sq (wpL_rg ?_)
    refine pA (.bool _) ?_
    refine pE (gn (wpL_rt (gr ?_)))
    replace hk := Option.some.inj hk; subst hk; exact fin0 hO
  · replace hk := cf hb hk
    refine wpL_sk (gn (wpL_sq (wpL_sq (wpL_rg ?_))))
    refine pA (.int _ _) ?_
    refine pE (gn (wpL_bl ?_))
    refine wpL_loopO (F := f209_L1 aA0 aB1) (fun s S' => ∃ (J : Nat → V) (G : Heap), Owns H G [] ∧ S' = ⟨hav [(0, .lit l1 aA0.length ((flatL 0) aA0)), (1, .lit l2 aB1.length ((flatL 0) aB1)), (5, .int .i64 s)] J, G⟩) hk ⟨_, _, hO, St.hav _ ⟨rfl, rfl, rfl, trivial⟩⟩ ?_
    rintro x1 _ y1 ⟨J, G, hO, rfl⟩ hk hx1
    refine wpL_sq (wpL_sq (wpL_rg ?_))
    refine pM (.int _ _) ?_
    refine pM (.lit _ _ _) ?_
    refine pLen tS145 ?_
    refine pBi ?_
    refine pE (gn ?_)
    refine wpL_cd (b := decide (x1 < (aA0.length : Int))) (fun hb => ?_) (fun hb => ?_)
    · replace hk := ct hb hk
      refine wpL_sk (gn (wpL_sq (wpL_bl (wpL_sq ?_))))
      refine wpL_drw [(0, true), (1, true), (2, true), (3, true), (4, true), (5, true), (6, true), (7, true), (8, false), (9, false)] [_, _, _, _, _, _, _, _, _, _] (by decide +kernel) (by rfl) ?_
      refine pM (.lit _ _ _) ?_
      refine pM (.int _ _) ?_
      obtain ⟨c2, hc2, hk⟩ := bs hk
      refine pX hc2 tE145 tZ245 ?_
      refine pLp (.agg [_, _]) (rd2 (lm := 0) (off := 0) hc2 tA245 tZ245) ?_
      refine pM (.lit _ _ _) ?_
      refine pM (.int _ _) ?_
      obtain ⟨c3, hc3, hk⟩ := bs hk
      refine pX hc3 tE145 tZ245 ?_
      refine pLp (.agg [_, _]) (rd2 (lm := 0) (off := 0) hc3 tA245 tZ245) ?_
      obtain ⟨v4, hv4, hk⟩ := bs hk
      refine pCall (fun _ => f299_run hv4) ?_
      refine pU ?_
      refine pE (gn ?_)
      refine wpL_cd (b := !v4) (fun hb => ?_) (fun hb => ?_)
      · replace hk := ct hb hk
        refine wpL_sq (wpL_rg ?_)
        refine pA (.bool _) ?_
        refine pE (gn (wpL_rt (br (gr (gr (br (gr ?_)))))))
        replace hk := lx hx1 hk
        replace hk := Option.some.inj hk; subst hk; exact fin0 hO
      · replace hk := cf hb hk
        refine wpL_sk (bn (gn (wpL_rg ?_)))
        refine pM (.int _ _) ?_
        refine pBi ?_
        refine pA (.int _ _) ?_
        refine pE (gn ?_)
        cases hk; exact ⟨_, rfl, _, _, hO, St.hav _ ⟨rfl, rfl, rfl, trivial⟩⟩
    · replace hk := cf hb hk
      refine wpL_ex (ge (ge (be (gn ?_))))
      replace hk := lx hx1 hk
      refine wpL_sq (wpL_rg ?_)
      refine pA (.bool _) ?_
      refine pE (gn (wpL_rt ?_))
      replace hk := Option.some.inj hk; subst hk; exact fin0 hO
/-- laws.eqHeld -/
def f300 (aA0 : Held) (aB1 : Held) : Option Bool :=
  (bif (aA0.State != aB1.State) then some false else (bif (aA0.Gone != aB1.Gone) then some false else ((f133 aA0.Been aB1.Been).bind fun v3 => (bif !v3 then some false else (bif !(aA0.Shown == aB1.Shown) then some false else (bif (aA0.Timer != aB1.Timer) then some false else some true))))))
theorem f300_run {aA0 : Held} {aB1 : Held} {r : Bool} {l1 l2 : Nat} {H : Heap} {lk : Lk} (hk : f300 aA0 aB1 = some r) (hlk : 0 < lk.length := by simp) : runL Try.prog hh 300 [.agg [.int .i64 aA0.State, .int .i64 aA0.Gone, .lit l1 aA0.Been.length ((flatL 0) aA0.Been), .bool aA0.Shown, .int .i64 aA0.Timer], .agg [.int .i64 aB1.State, .int .i64 aB1.Gone, .lit l2 aB1.Been.length ((flatL 0) aB1.Been), .bool aB1.Shown, .int .i64 aB1.Timer]] H lk = some (.bool r, H) := by
  refine run_start Try.func300 rfl Try.ntmps300 Try.results300 rfl rfl fun hO => ?_
  unfold f300 at hk
  refine wpL_sq (wpL_rg ?_)
  refine pBox (cs := [_, _, _, _, _]) hO tZ247 (fun b1 G hO => ?_)
  refine pBox (cs := [_, _, _, _, _]) hO tZ247 (fun b2 G hO => ?_)
  refine pA (.bool _) ?_
  refine pE (gn (wpL_sq (wpL_sq (wpL_rg ?_))))
  refine pF tF247_0 ?_
  refine pLo hO 1 (.int _ _) tA3 ?_
  refine pF tF247_0 ?_
  refine pLo hO 0 (.int _ _) tA3 ?_
  refine pBi ?_
  refine pE (gn ?_)
  refine wpL_cd (b := (aA0.State != aB1.State)) (fun hb => ?_) (fun hb => ?_)
  · replace hk := ct hb hk
    refine wpL_sq (wpL_rg ?_)
    refine pA (.bool _) ?_
    refine pE (gn (wpL_rt (gr ?_)))
    replace hk := Option.some.inj hk; subst hk; exact fin0 hO
  · replace hk := cf hb hk
    refine wpL_sk (gn (wpL_sq (wpL_sq (wpL_rg ?_))))
    refine pF tF247_1 ?_
    refine pLo hO 1 (.int _ _) tA3 ?_
    refine pF tF247_1 ?_
    refine pLo hO 0 (.int _ _) tA3 ?_
    refine pBi ?_
    refine pE (gn ?_)
    refine wpL_cd (b := (aA0.Gone != aB1.Gone)) (fun hb => ?_) (fun hb => ?_)
    · replace hk := ct hb hk
      refine wpL_sq (wpL_rg ?_)
      refine pA (.bool _) ?_
      refine pE (gn (wpL_rt (gr ?_)))
      replace hk := Option.some.inj hk; subst hk; exact fin0 hO
    · replace hk := cf hb hk
      refine wpL_sk (gn (wpL_sq (wpL_sq (wpL_rg ?_))))
      refine pF tF247_2 ?_
      refine pLo hO 1 (.lit _ _ _) tA38 ?_
      refine pF tF247_2 ?_
      refine pLo hO 0 (.lit _ _ _) tA38 ?_
      obtain ⟨v3, hv3, hk⟩ := bs hk
      refine pCall (fun _ => f133_run hv3) ?_
      refine pU ?_
      refine pE (gn ?_)
      refine wpL_cd (b := !v3) (fun hb => ?_) (fun hb => ?_)
      · replace hk := ct hb hk
        refine wpL_sq (wpL_rg ?_)
        refine pA (.bool _) ?_
        refine pE (gn (wpL_rt (gr ?_)))
        replace hk := Option.some.inj hk; subst hk; exact fin0 hO
      · replace hk := cf hb hk
        refine wpL_sk (gn (wpL_sq (wpL_sq (wpL_rg ?_))))
        refine pF tF247_3 ?_
        refine pLo hO 1 (.bool _) tA4 ?_
        refine pF tF247_3 ?_
        refine pLo hO 0 (.bool _) tA4 ?_
        refine pBn Try.underlying4 ?_
        refine pE (gn ?_)
        refine wpL_cd (b := !(aA0.Shown == aB1.Shown)) (fun hb => ?_) (fun hb => ?_)
        · replace hk := ct hb hk
          refine wpL_sq (wpL_rg ?_)
          refine pA (.bool _) ?_
          refine pE (gn (wpL_rt (gr ?_)))
          replace hk := Option.some.inj hk; subst hk; exact fin0 hO
        · replace hk := cf hb hk
          refine wpL_sk (gn (wpL_sq (wpL_sq (wpL_rg ?_))))
          refine pF tF247_4 ?_
          refine pLo hO 1 (.int _ _) tA3 ?_
          refine pF tF247_4 ?_
          refine pLo hO 0 (.int _ _) tA3 ?_
          refine pBi ?_
          refine pE (gn ?_)
          refine wpL_cd (b := (aA0.Timer != aB1.Timer)) (fun hb => ?_) (fun hb => ?_)
          · replace hk := ct hb hk
            refine wpL_sq (wpL_rg ?_)
            refine pA (.bool _) ?_
            refine pE (gn (wpL_rt (gr ?_)))
            replace hk := Option.some.inj hk; subst hk; exact fin0 hO
          · replace hk := cf hb hk
            refine wpL_sk (gn (wpL_sq (wpL_rg ?_)))
            refine pA (.bool _) ?_
            refine pE (gn (wpL_rt ?_))
            replace hk := Option.some.inj hk; subst hk; exact fin0 hO
/-- laws.eqHeldS -/
def f210_L1 (aA0 : List Held) (aB1 : List Held) : Int → Option (Int ⊕ Bool) := fun s =>
  (bif decide (s < (aA0.length : Int)) then ((getI aA0 s).bind fun c2 => ((getI aB1 s).bind fun c3 => ((f300 c2 c3).bind fun v4 => (bif !v4 then ((some false).map Sum.inr) else some (.inl (w64 (s + (1:Int)))))))) else ((some true).map Sum.inr))
def f210 (aA0 : List Held) (aB1 : List Held) : Option Bool :=
  (bif ((aA0.length : Int) != (aB1.length : Int)) then some false else (loopO (f210_L1 aA0 aB1) ((0:Int))))
theorem f210_run {aA0 : List Held} {aB1 : List Held} {r : Bool} {l1 m2 l3 m4 : Nat} {H : Heap} {lk : Lk} (hk : f210 aA0 aB1 = some r) (hlk : 0 < lk.length := by simp) : runL Try.prog hh 210 [.lit l1 aA0.length (flatL m2 aA0), .lit l3 aB1.length (flatL m4 aB1)] H lk = some (.bool r, H) := by
  refine run_start Try.func210 rfl Try.ntmps210 Try.results210 rfl rfl fun hO => ?_
  unfold f210 at hk
  refine wpL_sq (wpL_rg ?_)
  refine pA (.bool _) ?_
  refine pE (gn (wpL_sq (wpL_sq (wpL_rg ?_))))
  refine pM (.lit _ _ _) ?_
  refine pLen tS146 ?_
  refine pM (.lit _ _ _) ?_
  refine pLen tS146 ?_
  refine pBi ?_
  refine pE (gn ?_)
  refine wpL_cd (b := ((aA0.length : Int) != (aB1.length : Int))) (fun hb => ?_) (fun hb => ?_)
  · replace hk := ct hb hk
    refine wpL_sq (wpL_rg ?_)
    refine pA (.bool _) ?_
    refine pE (gn (wpL_rt (gr ?_)))
    replace hk := Option.some.inj hk; subst hk; exact fin0 hO
  · replace hk := cf hb hk
    refine wpL_sk (gn (wpL_sq (wpL_sq (wpL_rg ?_))))
    refine pA (.int _ _) ?_
    refine pE (gn (wpL_bl ?_))
    refine wpL_loopO (F := f210_L1 aA0 aB1) (fun s S' => ∃ (J : Nat → V) (G : Heap), Owns H G [] ∧ S' = ⟨hav [(0, .lit l1 aA0.length (flatL m2 aA0)), (1, .lit l3 aB1.length (flatL m4 aB1)), (5, .int .i64 s)] J, G⟩) hk ⟨_, _, hO, St.hav _ ⟨rfl, rfl, rfl, trivial⟩⟩ ?_
    rintro x1 _ y1 ⟨J, G, hO, rfl⟩ hk hx1
    refine wpL_sq (wpL_sq (wpL_rg ?_))
    refine pM (.int _ _) ?_
    refine pM (.lit _ _ _) ?_
    refine pLen tS146 ?_
    refine pBi ?_
    refine pE (gn ?_)
    refine wpL_cd (b := decide (x1 < (aA0.length : Int))) (fun hb => ?_) (fun hb => ?_)
    · replace hk := ct hb hk
      refine wpL_sk (gn (wpL_sq (wpL_bl (wpL_sq ?_))))
      refine wpL_drw [(0, true), (1, true), (2, true), (3, true), (4, true), (5, true), (6, true), (7, true), (8, false), (9, false)] [_, _, _, _, _, _, _, _, _, _] (by decide +kernel) (by rfl) ?_
      refine pM (.lit _ _ _) ?_
      refine pM (.int _ _) ?_
      obtain ⟨c2, hc2, hk⟩ := bs hk
      refine pX hc2 tE146 tZ247 ?_
      refine pLp (.agg [_, _, _, _, _]) (rd2 (lm := m2) (off := 0) hc2 tA247 tZ247) ?_
      refine pM (.lit _ _ _) ?_
      refine pM (.int _ _) ?_
      obtain ⟨c3, hc3, hk⟩ := bs hk
      refine pX hc3 tE146 tZ247 ?_
      refine pLp (.agg [_, _, _, _, _]) (rd2 (lm := m4) (off := 0) hc3 tA247 tZ247) ?_
      obtain ⟨v4, hv4, hk⟩ := bs hk
      refine pCall (fun _ => f300_run hv4) ?_
      refine pU ?_
      refine pE (gn ?_)
      refine wpL_cd (b := !v4) (fun hb => ?_) (fun hb => ?_)
      · replace hk := ct hb hk
        refine wpL_sq (wpL_rg ?_)
        refine pA (.bool _) ?_
        refine pE (gn (wpL_rt (br (gr (gr (br (gr ?_)))))))
        replace hk := lx hx1 hk
        replace hk := Option.some.inj hk; subst hk; exact fin0 hO
      · replace hk := cf hb hk
        refine wpL_sk (bn (gn (wpL_rg ?_)))
        refine pM (.int _ _) ?_
        refine pBi ?_
        refine pA (.int _ _) ?_
        refine pE (gn ?_)
        cases hk; exact ⟨_, rfl, _, _, hO, St.hav _ ⟨rfl, rfl, rfl, trivial⟩⟩
    · replace hk := cf hb hk
      refine wpL_ex (ge (ge (be (gn ?_))))
      replace hk := lx hx1 hk
      refine wpL_sq (wpL_rg ?_)
      refine pA (.bool _) ?_
      refine pE (gn (wpL_rt ?_))
      replace hk := Option.some.inj hk; subst hk; exact fin0 hO
end
end Go.Proofs.Ytkfekjcahepfnaa.K
