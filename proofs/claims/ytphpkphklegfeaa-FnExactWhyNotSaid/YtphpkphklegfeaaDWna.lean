/-
 The functions that FnExactWhyNot reaches, as typed Lean functions, and that the interpreter computes them. Part 1 of 3. No conditions.
-/
import Derived.Test.YtphpkphklegfeaaKzm
import Derived.Test.YtphpkphklegfeaaProg
set_option linter.unusedVariables false
set_option linter.unusedSimpArgs false
set_option maxRecDepth 100000
namespace Go.Proofs.Ytphpkphklegfeaa.K
noncomputable section
variable {H : Heap} {lk : Lk}
def hh : Hints := { modes := fun k => bif false then [.exact] else [], thaw := fun k => Nat.beq k 30 || Nat.beq k 63 || Nat.beq k 82 || Nat.beq k 83 || Nat.beq k 84 || Nat.beq k 85, grow := fun k => Nat.beq k 31 || Nat.beq k 57 || Nat.beq k 64 || Nat.beq k 77 || Nat.beq k 89, keep := fun k => Nat.beq k 30 }
structure Turn where
 Switch : Int
 Lie : Int
instance : GoT Turn := ⟨2, by decide, fun l x => GoT.encL l x.Switch ++ (GoT.encL l x.Lie), fun x => by simp only [List.length_append, GoT.len]; rfl, fun x => by simp only [cleanL_append, GoT.clean]; rfl, fun x => by simp only [List.all_append, GoT.cell]; rfl⟩
instance : GoM Turn := GoM.via (fun x => (x.Switch, x.Lie) : Turn → Int × Int) rfl fun _ _ => rfl
instance : GoIv Turn := ⟨fun h => GoIv.inv (α := Int × Int) h⟩
instance : GoG Turn := ⟨fun h d => GoG.cl (α := Int × Int) h d⟩
instance : GoFl Turn := ⟨fun G x => GoFl.fl (α := Int × Int) G (x.Switch, x.Lie), fun l x => GoFl.lev (α := Int × Int) l (x.Switch, x.Lie), GoFl.pos (α := Int × Int)⟩
structure Way where
 Sections : List Int
 Lies : List Turn
 Flanks : List Turn
 Over : List Int
 Near : List Int
instance : GoT Way := ⟨5, by decide, fun l x => GoT.encL l x.Sections ++ (GoT.encL l x.Lies ++ (GoT.encL l x.Flanks ++ (GoT.encL l x.Over ++ (GoT.encL l x.Near)))), fun x => by simp only [List.length_append, GoT.len]; rfl, fun x => by simp only [cleanL_append, GoT.clean]; rfl, fun x => by simp only [List.all_append, GoT.cell]; rfl⟩
abbrev cWay (a b c d e f g h i j : Nat) (x : Way) : List V := [litL a b x.Sections, litL c d x.Lies, litL e f x.Flanks, litL g h x.Over, litL i j x.Near]
instance : GoM Way := GoM.via (fun x => (x.Sections, x.Lies, x.Flanks, x.Over, x.Near) : Way → (List Int) × (List Turn) × (List Turn) × (List Int) × (List Int)) rfl fun _ _ => rfl
instance : GoG Way := ⟨fun h d => GoG.cl (α := (List Int) × (List Turn) × (List Turn) × (List Int) × (List Int)) h d⟩
theorem th_Way {H : Heap} {d n : Nat} {rs rs1 : List Res} {cs : List V} {x : Way} (h : ThV n H d rs cs (x.Sections, x.Lies, x.Flanks, x.Over, x.Near) rs1) : ThV n H d rs cs x rs1 := h
theorem ls_Way {H G : Heap} {rs : List Res} {S F : List Nat} {x : Way} {cs : List V} {j : Nat} (hO : Owns H G rs) (hj : rs[j]? = some (Tree S F x cs)) (lv n : Nat) (hn : Nat.ble (GoM.dep Way) n = true := by rfl) : ∃ M, lendV lv G (n + 1) (.agg cs) = some (.agg [litL lv 0 x.Sections, litL lv 0 x.Lies, litL lv 0 x.Flanks, litL lv 0 x.Over, litL lv 0 x.Near], M) := by
 have h := ld_trS hO hj lv n hn
 have e : GoT.encL lv x = [litL lv 0 x.Sections, litL lv 0 x.Lies, litL lv 0 x.Flanks, litL lv 0 x.Over, litL lv 0 x.Near] := by
  show ([litL lv lv x.Sections, litL lv lv x.Lies, litL lv lv x.Flanks, litL lv lv x.Over, litL lv lv x.Near] : List V) = _
  simp only [litL, flat_lv]
 rwa [e] at h
structure Plan where
 Sections : Int
 Switches : List Int
 Ways : List Way
 Bars : List (List Bool)
 Hold : Int
instance : GoT Plan := ⟨5, by decide, fun l x => GoT.encL l x.Sections ++ (GoT.encL l x.Switches ++ (GoT.encL l x.Ways ++ (GoT.encL l x.Bars ++ (GoT.encL l x.Hold)))), fun x => by simp only [List.length_append, GoT.len]; rfl, fun x => by simp only [cleanL_append, GoT.clean]; rfl, fun x => by simp only [List.all_append, GoT.cell]; rfl⟩
abbrev cPlan (a b c d e f : Nat) (x : Plan) : List V := [.int .i64 x.Sections, litL a b x.Switches, litL c d x.Ways, litL e f x.Bars, .int .i64 x.Hold]
instance : GoM Plan := GoM.via (fun x => (x.Sections, x.Switches, x.Ways, x.Bars, x.Hold) : Plan → Int × (List Int) × (List Way) × (List (List Bool)) × Int) rfl fun _ _ => rfl
instance : GoG Plan := ⟨fun h d => GoG.cl (α := Int × (List Int) × (List Way) × (List (List Bool)) × Int) h d⟩
theorem th_Plan {H : Heap} {d n : Nat} {rs rs1 : List Res} {cs : List V} {x : Plan} (h : ThV n H d rs cs (x.Sections, x.Switches, x.Ways, x.Bars, x.Hold) rs1) : ThV n H d rs cs x rs1 := h
theorem ls_Plan {H G : Heap} {rs : List Res} {S F : List Nat} {x : Plan} {cs : List V} {j : Nat} (hO : Owns H G rs) (hj : rs[j]? = some (Tree S F x cs)) (lv n : Nat) (hn : Nat.ble (GoM.dep Plan) n = true := by rfl) : ∃ M, lendV lv G (n + 1) (.agg cs) = some (.agg [.int .i64 x.Sections, litL lv 0 x.Switches, litL lv lv x.Ways, litL lv lv x.Bars, .int .i64 x.Hold], M) := by
 have h := ld_trS hO hj lv n hn
 have e : GoT.encL lv x = [.int .i64 x.Sections, litL lv 0 x.Switches, litL lv lv x.Ways, litL lv lv x.Bars, .int .i64 x.Hold] := by
  show ([.int .i64 x.Sections, litL lv lv x.Switches, litL lv lv x.Ways, litL lv lv x.Bars, .int .i64 x.Hold] : List V) = _
  simp only [litL, flat_lv]
 rwa [e] at h
structure Point where
 Want : Int
 Lies : Int
instance : GoT Point := ⟨2, by decide, fun l x => GoT.encL l x.Want ++ (GoT.encL l x.Lies), fun x => by simp only [List.length_append, GoT.len]; rfl, fun x => by simp only [cleanL_append, GoT.clean]; rfl, fun x => by simp only [List.all_append, GoT.cell]; rfl⟩
instance : GoM Point := GoM.via (fun x => (x.Want, x.Lies) : Point → Int × Int) rfl fun _ _ => rfl
instance : GoIv Point := ⟨fun h => GoIv.inv (α := Int × Int) h⟩
instance : GoG Point := ⟨fun h d => GoG.cl (α := Int × Int) h d⟩
instance : GoFl Point := ⟨fun G x => GoFl.fl (α := Int × Int) G (x.Want, x.Lies), fun l x => GoFl.lev (α := Int × Int) l (x.Want, x.Lies), GoFl.pos (α := Int × Int)⟩
structure Held where
 State : Int
 Gone : Int
 Been : List Bool
 Shown : Bool
 Timer : Int
instance : GoT Held := ⟨5, by decide, fun l x => GoT.encL l x.State ++ (GoT.encL l x.Gone ++ (GoT.encL l x.Been ++ (GoT.encL l x.Shown ++ (GoT.encL l x.Timer)))), fun x => by simp only [List.length_append, GoT.len]; rfl, fun x => by simp only [cleanL_append, GoT.clean]; rfl, fun x => by simp only [List.all_append, GoT.cell]; rfl⟩
instance : GoM Held := GoM.via (fun x => (x.State, x.Gone, x.Been, x.Shown, x.Timer) : Held → Int × Int × (List Bool) × Bool × Int) rfl fun _ _ => rfl
instance : GoG Held := ⟨fun h d => GoG.cl (α := Int × Int × (List Bool) × Bool × Int) h d⟩
theorem foc_Held_State : Foc Held Int (fun x => x.State) (fun x y => { x with State := y }) 0 := Foc.via (α := Held) (f := (fun x => (x.State, x.Gone, x.Been, x.Shown, x.Timer) : Held → Int × Int × (List Bool) × Bool × Int)) (hz := rfl) (he := fun _ _ => rfl) (Foc.fst) fun _ _ => rfl
theorem foc_Held_Gone : Foc Held Int (fun x => x.Gone) (fun x y => { x with Gone := y }) 1 := Foc.via (α := Held) (f := (fun x => (x.State, x.Gone, x.Been, x.Shown, x.Timer) : Held → Int × Int × (List Bool) × Bool × Int)) (hz := rfl) (he := fun _ _ => rfl) (Foc.comp Foc.snd (Foc.fst)) fun _ _ => rfl
theorem foc_Held_Been : Foc Held (List Bool) (fun x => x.Been) (fun x y => { x with Been := y }) 2 := Foc.via (α := Held) (f := (fun x => (x.State, x.Gone, x.Been, x.Shown, x.Timer) : Held → Int × Int × (List Bool) × Bool × Int)) (hz := rfl) (he := fun _ _ => rfl) (Foc.comp Foc.snd (Foc.comp Foc.snd (Foc.fst))) fun _ _ => rfl
theorem foc_Held_Shown : Foc Held Bool (fun x => x.Shown) (fun x y => { x with Shown := y }) 3 := Foc.via (α := Held) (f := (fun x => (x.State, x.Gone, x.Been, x.Shown, x.Timer) : Held → Int × Int × (List Bool) × Bool × Int)) (hz := rfl) (he := fun _ _ => rfl) (Foc.comp Foc.snd (Foc.comp Foc.snd (Foc.comp Foc.snd (Foc.fst)))) fun _ _ => rfl
theorem foc_Held_Timer : Foc Held Int (fun x => x.Timer) (fun x y => { x with Timer := y }) 4 := Foc.via (α := Held) (f := (fun x => (x.State, x.Gone, x.Been, x.Shown, x.Timer) : Held → Int × Int × (List Bool) × Bool × Int)) (hz := rfl) (he := fun _ _ => rfl) (Foc.comp Foc.snd (Foc.comp Foc.snd (Foc.comp Foc.snd (Foc.snd)))) fun _ _ => rfl
theorem th_Held {H : Heap} {d n : Nat} {rs rs1 : List Res} {cs : List V} {x : Held} (h : ThV n H d rs cs (x.State, x.Gone, x.Been, x.Shown, x.Timer) rs1) : ThV n H d rs cs x rs1 := h
theorem ls_Held {H G : Heap} {rs : List Res} {S F : List Nat} {x : Held} {cs : List V} {j : Nat} (hO : Owns H G rs) (hj : rs[j]? = some (Tree S F x cs)) (lv n : Nat) (hn : Nat.ble (GoM.dep Held) n = true := by rfl) : ∃ M, lendV lv G (n + 1) (.agg cs) = some (.agg [.int .i64 x.State, .int .i64 x.Gone, litL lv 0 x.Been, .bool x.Shown, .int .i64 x.Timer], M) := by
 have h := ld_trS hO hj lv n hn
 have e : GoT.encL lv x = [.int .i64 x.State, .int .i64 x.Gone, litL lv 0 x.Been, .bool x.Shown, .int .i64 x.Timer] := by
  show ([.int .i64 x.State, .int .i64 x.Gone, litL lv lv x.Been, .bool x.Shown, .int .i64 x.Timer] : List V) = _
  simp only [litL, flat_lv]
 rwa [e] at h
structure Frame where
 Ok : Bool
 Occ : List Bool
 Points : List Point
 Ways : List Held
instance : GoT Frame := ⟨4, by decide, fun l x => GoT.encL l x.Ok ++ (GoT.encL l x.Occ ++ (GoT.encL l x.Points ++ (GoT.encL l x.Ways))), fun x => by simp only [List.length_append, GoT.len]; rfl, fun x => by simp only [cleanL_append, GoT.clean]; rfl, fun x => by simp only [List.all_append, GoT.cell]; rfl⟩
abbrev cFrame (a b c d e f : Nat) (x : Frame) : List V := [.bool x.Ok, litL a b x.Occ, litL c d x.Points, litL e f x.Ways]
instance : GoM Frame := GoM.via (fun x => (x.Ok, x.Occ, x.Points, x.Ways) : Frame → Bool × (List Bool) × (List Point) × (List Held)) rfl fun _ _ => rfl
instance : GoG Frame := ⟨fun h d => GoG.cl (α := Bool × (List Bool) × (List Point) × (List Held)) h d⟩
theorem th_Frame {H : Heap} {d n : Nat} {rs rs1 : List Res} {cs : List V} {x : Frame} (h : ThV n H d rs cs (x.Ok, x.Occ, x.Points, x.Ways) rs1) : ThV n H d rs cs x rs1 := h
theorem ls_Frame {H G : Heap} {rs : List Res} {S F : List Nat} {x : Frame} {cs : List V} {j : Nat} (hO : Owns H G rs) (hj : rs[j]? = some (Tree S F x cs)) (lv n : Nat) (hn : Nat.ble (GoM.dep Frame) n = true := by rfl) : ∃ M, lendV lv G (n + 1) (.agg cs) = some (.agg [.bool x.Ok, litL lv 0 x.Occ, litL lv 0 x.Points, litL lv lv x.Ways], M) := by
 have h := ld_trS hO hj lv n hn
 have e : GoT.encL lv x = [.bool x.Ok, litL lv 0 x.Occ, litL lv 0 x.Points, litL lv lv x.Ways] := by
  show ([.bool x.Ok, litL lv lv x.Occ, litL lv lv x.Points, litL lv lv x.Ways] : List V) = _
  simp only [litL, flat_lv]
 rwa [e] at h
structure Fault where
 Code : Int
 At : Int
instance : GoT Fault := ⟨2, by decide, fun l x => GoT.encL l x.Code ++ (GoT.encL l x.At), fun x => by simp only [List.length_append, GoT.len]; rfl, fun x => by simp only [cleanL_append, GoT.clean]; rfl, fun x => by simp only [List.all_append, GoT.cell]; rfl⟩
instance : GoM Fault := GoM.via (fun x => (x.Code, x.At) : Fault → Int × Int) rfl fun _ _ => rfl
instance : GoIv Fault := ⟨fun h => GoIv.inv (α := Int × Int) h⟩
instance : GoG Fault := ⟨fun h d => GoG.cl (α := Int × Int) h d⟩
instance : GoFl Fault := ⟨fun G x => GoFl.fl (α := Int × Int) G (x.Code, x.At), fun l x => GoFl.lev (α := Int × Int) l (x.Code, x.At), GoFl.pos (α := Int × Int)⟩
structure Stays where
 Ways : List Int
 Sections : List Int
 Points : List Int
instance : GoT Stays := ⟨3, by decide, fun l x => GoT.encL l x.Ways ++ (GoT.encL l x.Sections ++ (GoT.encL l x.Points)), fun x => by simp only [List.length_append, GoT.len]; rfl, fun x => by simp only [cleanL_append, GoT.clean]; rfl, fun x => by simp only [List.all_append, GoT.cell]; rfl⟩
instance : GoM Stays := GoM.via (fun x => (x.Ways, x.Sections, x.Points) : Stays → (List Int) × (List Int) × (List Int)) rfl fun _ _ => rfl
instance : GoG Stays := ⟨fun h d => GoG.cl (α := (List Int) × (List Int) × (List Int)) h d⟩
theorem th_Stays {H : Heap} {d n : Nat} {rs rs1 : List Res} {cs : List V} {x : Stays} (h : ThV n H d rs cs (x.Ways, x.Sections, x.Points) rs1) : ThV n H d rs cs x rs1 := h
theorem ls_Stays {H G : Heap} {rs : List Res} {S F : List Nat} {x : Stays} {cs : List V} {j : Nat} (hO : Owns H G rs) (hj : rs[j]? = some (Tree S F x cs)) (lv n : Nat) (hn : Nat.ble (GoM.dep Stays) n = true := by rfl) : ∃ M, lendV lv G (n + 1) (.agg cs) = some (.agg [litL lv 0 x.Ways, litL lv 0 x.Sections, litL lv 0 x.Points], M) := by
 have h := ld_trS hO hj lv n hn
 have e : GoT.encL lv x = [litL lv 0 x.Ways, litL lv 0 x.Sections, litL lv 0 x.Points] := by
  show ([litL lv lv x.Ways, litL lv lv x.Sections, litL lv lv x.Points] : List V) = _
  simp only [litL, flat_lv]
 rwa [e] at h
theorem tZ26 : szOf Try.prog 26 = some 5 := by rfl
theorem tZ31 : szOf Try.prog 31 = some 4 := by rfl
theorem tA26 : aggT Try.prog 26 = some true := by rfl
theorem tF26_1 : fieldOff Try.prog 26 1 = some 1 := by rfl
theorem tA22 : aggT Try.prog 22 = some false := by rfl
theorem tS22 : strT Try.prog 22 = some false := by rfl
theorem tF26_2 : fieldOff Try.prog 26 2 = some 2 := by rfl
theorem tA23 : aggT Try.prog 23 = some false := by rfl
theorem tS23 : strT Try.prog 23 = some false := by rfl
theorem tE23 : elemT Try.prog 23 = some 81 := by rfl
theorem tZ81 : szOf Try.prog 81 = some 5 := by rfl
theorem tA81 : aggT Try.prog 81 = some true := by rfl
theorem tF81_0 : fieldOff Try.prog 81 0 = some 0 := by rfl
theorem tF81_1 : fieldOff Try.prog 81 1 = some 1 := by rfl
theorem tA79 : aggT Try.prog 79 = some false := by rfl
theorem tS79 : strT Try.prog 79 = some false := by rfl
theorem tF81_2 : fieldOff Try.prog 81 2 = some 2 := by rfl
theorem tF81_3 : fieldOff Try.prog 81 3 = some 3 := by rfl
theorem tF81_4 : fieldOff Try.prog 81 4 = some 4 := by rfl
theorem tF26_3 : fieldOff Try.prog 26 3 = some 3 := by rfl
theorem tA24 : aggT Try.prog 24 = some false := by rfl
theorem tS24 : strT Try.prog 24 = some false := by rfl
theorem tE24 : elemT Try.prog 24 = some 27 := by rfl
theorem tZ27 : szOf Try.prog 27 = some 1 := by rfl
theorem tA27 : aggT Try.prog 27 = some false := by rfl
theorem tS27 : strT Try.prog 27 = some false := by rfl
theorem tA31 : aggT Try.prog 31 = some true := by rfl
theorem tF31_1 : fieldOff Try.prog 31 1 = some 1 := by rfl
theorem tF31_2 : fieldOff Try.prog 31 2 = some 2 := by rfl
theorem tA28 : aggT Try.prog 28 = some false := by rfl
theorem tS28 : strT Try.prog 28 = some false := by rfl
theorem tF31_3 : fieldOff Try.prog 31 3 = some 3 := by rfl
theorem tA29 : aggT Try.prog 29 = some false := by rfl
theorem tS29 : strT Try.prog 29 = some false := by rfl
theorem tE29 : elemT Try.prog 29 = some 83 := by rfl
theorem tZ83 : szOf Try.prog 83 = some 5 := by rfl
theorem tA83 : aggT Try.prog 83 = some true := by rfl
theorem tF83_2 : fieldOff Try.prog 83 2 = some 2 := by rfl
theorem tZ37 : szOf Try.prog 37 = some 5 := by rfl
theorem t037 : zeroOf Try.prog 37 = some [.int .i64 0, (.tl 0 []), (.tl 0 []), (.tl 0 []), .int .i64 0] := by rfl
theorem tF26_0 : fieldOff Try.prog 26 0 = some 0 := by rfl
theorem tA3 : aggT Try.prog 3 = some false := by rfl
theorem tF37_0 : fieldOff Try.prog 37 0 = some 0 := by rfl
theorem tZ3 : szOf Try.prog 3 = some 1 := by rfl
theorem tE22 : elemT Try.prog 22 = some 3 := by rfl
theorem tB3 : bytesOf Try.prog 3 = some 8 := by rfl
theorem t03 : zeroOf Try.prog 3 = some [.int .i64 0] := by rfl
theorem tF37_1 : fieldOff Try.prog 37 1 = some 1 := by rfl
theorem tZ22 : szOf Try.prog 22 = some 1 := by rfl
theorem tE35 : elemT Try.prog 35 = some 89 := by rfl
theorem tZ89 : szOf Try.prog 89 = some 5 := by rfl
theorem tB89 : bytesOf Try.prog 89 = some 120 := by rfl
theorem t089 : zeroOf Try.prog 89 = some [(.tl 0 []), (.tl 0 []), (.tl 0 []), (.tl 0 []), (.tl 0 [])] := by rfl
theorem tF89_0 : fieldOff Try.prog 89 0 = some 0 := by rfl
theorem tE87 : elemT Try.prog 87 = some 102 := by rfl
theorem tZ102 : szOf Try.prog 102 = some 2 := by rfl
theorem tB102 : bytesOf Try.prog 102 = some 16 := by rfl
theorem t0102 : zeroOf Try.prog 102 = some [.int .i64 0, .int .i64 0] := by rfl
theorem tE79 : elemT Try.prog 79 = some 128 := by rfl
theorem tZ128 : szOf Try.prog 128 = some 2 := by rfl
theorem tA128 : aggT Try.prog 128 = some true := by rfl
theorem tF128_0 : fieldOff Try.prog 128 0 = some 0 := by rfl
theorem tF102_0 : fieldOff Try.prog 102 0 = some 0 := by rfl
theorem tF128_1 : fieldOff Try.prog 128 1 = some 1 := by rfl
theorem tF102_1 : fieldOff Try.prog 102 1 = some 1 := by rfl
theorem tA102 : aggT Try.prog 102 = some true := by rfl
theorem tF89_1 : fieldOff Try.prog 89 1 = some 1 := by rfl
theorem tZ87 : szOf Try.prog 87 = some 1 := by rfl
theorem tF89_2 : fieldOff Try.prog 89 2 = some 2 := by rfl
theorem tF89_3 : fieldOff Try.prog 89 3 = some 3 := by rfl
theorem tF89_4 : fieldOff Try.prog 89 4 = some 4 := by rfl
theorem tA89 : aggT Try.prog 89 = some true := by rfl
theorem tF37_2 : fieldOff Try.prog 37 2 = some 2 := by rfl
theorem tZ35 : szOf Try.prog 35 = some 1 := by rfl
theorem tB27 : bytesOf Try.prog 27 = some 24 := by rfl
theorem t027 : zeroOf Try.prog 27 = some [(.tl 0 [])] := by rfl
theorem tE27 : elemT Try.prog 27 = some 4 := by rfl
theorem tZ4 : szOf Try.prog 4 = some 1 := by rfl
theorem tB4 : bytesOf Try.prog 4 = some 1 := by rfl
theorem t04 : zeroOf Try.prog 4 = some [.bool false] := by rfl
theorem tA4 : aggT Try.prog 4 = some false := by rfl
theorem tF37_3 : fieldOff Try.prog 37 3 = some 3 := by rfl
theorem tZ24 : szOf Try.prog 24 = some 1 := by rfl
theorem tF26_4 : fieldOff Try.prog 26 4 = some 4 := by rfl
theorem tF37_4 : fieldOff Try.prog 37 4 = some 4 := by rfl
theorem tA37 : aggT Try.prog 37 = some true := by rfl
theorem tZ42 : szOf Try.prog 42 = some 4 := by rfl
theorem t042 : zeroOf Try.prog 42 = some [.bool false, (.tl 0 []), (.tl 0 []), (.tl 0 [])] := by rfl
theorem tF31_0 : fieldOff Try.prog 31 0 = some 0 := by rfl
theorem tF42_0 : fieldOff Try.prog 42 0 = some 0 := by rfl
theorem tF42_1 : fieldOff Try.prog 42 1 = some 1 := by rfl
theorem tE39 : elemT Try.prog 39 = some 58 := by rfl
theorem tZ58 : szOf Try.prog 58 = some 2 := by rfl
theorem tB58 : bytesOf Try.prog 58 = some 16 := by rfl
theorem t058 : zeroOf Try.prog 58 = some [.int .i64 0, .int .i64 0] := by rfl
theorem tE28 : elemT Try.prog 28 = some 94 := by rfl
theorem tZ94 : szOf Try.prog 94 = some 2 := by rfl
theorem tA94 : aggT Try.prog 94 = some true := by rfl
theorem tF94_0 : fieldOff Try.prog 94 0 = some 0 := by rfl
theorem tF58_0 : fieldOff Try.prog 58 0 = some 0 := by rfl
theorem tF94_1 : fieldOff Try.prog 94 1 = some 1 := by rfl
theorem tF58_1 : fieldOff Try.prog 58 1 = some 1 := by rfl
theorem tA58 : aggT Try.prog 58 = some true := by rfl
theorem tF42_2 : fieldOff Try.prog 42 2 = some 2 := by rfl
theorem tZ39 : szOf Try.prog 39 = some 1 := by rfl
theorem tE40 : elemT Try.prog 40 = some 61 := by rfl
theorem tZ61 : szOf Try.prog 61 = some 5 := by rfl
theorem tB61 : bytesOf Try.prog 61 = some 56 := by rfl
theorem t061 : zeroOf Try.prog 61 = some [.int .i64 0, .int .i64 0, (.tl 0 []), .bool false, .int .i64 0] := by rfl
theorem tF83_0 : fieldOff Try.prog 83 0 = some 0 := by rfl
theorem tF61_0 : fieldOff Try.prog 61 0 = some 0 := by rfl
theorem tF83_1 : fieldOff Try.prog 83 1 = some 1 := by rfl
theorem tF61_1 : fieldOff Try.prog 61 1 = some 1 := by rfl
theorem tF61_2 : fieldOff Try.prog 61 2 = some 2 := by rfl
theorem tF83_3 : fieldOff Try.prog 83 3 = some 3 := by rfl
theorem tF61_3 : fieldOff Try.prog 61 3 = some 3 := by rfl
theorem tF83_4 : fieldOff Try.prog 83 4 = some 4 := by rfl
theorem tF61_4 : fieldOff Try.prog 61 4 = some 4 := by rfl
theorem tA61 : aggT Try.prog 61 = some true := by rfl
theorem tF42_3 : fieldOff Try.prog 42 3 = some 3 := by rfl
theorem tZ40 : szOf Try.prog 40 = some 1 := by rfl
theorem tA42 : aggT Try.prog 42 = some true := by rfl
theorem tZ85 : szOf Try.prog 85 = some 2 := by rfl
theorem t085 : zeroOf Try.prog 85 = some [.int .i64 0, .int .i64 0] := by rfl
theorem tA35 : aggT Try.prog 35 = some false := by rfl
theorem tS35 : strT Try.prog 35 = some false := by rfl
theorem tP85 : placesK Try.prog 85 = some [(0, 1), (1, 1)] := by rfl
theorem tA85 : aggT Try.prog 85 = some true := by rfl
theorem tA87 : aggT Try.prog 87 = some false := by rfl
theorem tS87 : strT Try.prog 87 = some false := by rfl
theorem tF85_0 : fieldOff Try.prog 85 0 = some 0 := by rfl
theorem tA39 : aggT Try.prog 39 = some false := by rfl
theorem tS39 : strT Try.prog 39 = some false := by rfl
theorem tA40 : aggT Try.prog 40 = some false := by rfl
theorem tS40 : strT Try.prog 40 = some false := by rfl
theorem tP42 : placesK Try.prog 42 = some [(0, 1), (1, 1), (2, 1), (3, 1)] := by rfl
theorem tE100 : elemT Try.prog 100 = some 87 := by rfl
theorem t087 : zeroOf Try.prog 87 = some [(.tl 0 [])] := by rfl
theorem tS100 : strT Try.prog 100 = some false := by rfl
theorem tE103 : elemT Try.prog 103 = some 22 := by rfl
theorem t022 : zeroOf Try.prog 22 = some [(.tl 0 [])] := by rfl
theorem tS103 : strT Try.prog 103 = some false := by rfl
theorem tP61 : placesK Try.prog 61 = some [(0, 1), (1, 1), (2, 1), (3, 1), (4, 1)] := by rfl
theorem tZ107 : szOf Try.prog 107 = some 3 := by rfl
theorem t0107 : zeroOf Try.prog 107 = some [(.tl 0 []), (.tl 0 []), (.tl 0 [])] := by rfl
theorem tF107_0 : fieldOff Try.prog 107 0 = some 0 := by rfl
theorem tF107_1 : fieldOff Try.prog 107 1 = some 1 := by rfl
theorem tF107_2 : fieldOff Try.prog 107 2 = some 2 := by rfl
theorem tA107 : aggT Try.prog 107 = some true := by rfl
theorem tC89 : Try.f89.body.bind isClone = some 87 := by rfl
theorem tM129 : mapK Try.prog 129 = some (.one .i, 4) := by decide +kernel
theorem tY4 : zero1 Try.prog 4 = some (GoP.pv (false : Bool)) := by rfl
theorem tG85 : flatT Try.prog 85 = some [.i, .i] := by decide +kernel
theorem tC82 : Try.f82.body.bind isClone = some 27 := by rfl
theorem tC83 : Try.f83.body.bind isClone = some 39 := by rfl
theorem tC84 : Try.f84.body.bind isClone = some 40 := by rfl
theorem tP58 : placesK Try.prog 58 = some [(0, 1), (1, 1)] := by rfl
theorem tG58 : flatT Try.prog 58 = some [.i, .i] := by decide +kernel
def f21 (aA0 : List Int) (aLeft1 : Int) : Option Int :=
 (bif decide ((w64 (aLeft1 - (aA0.length : Int))) < (0:Int)) then some (-1:Int) else some (w64 (aLeft1 - (aA0.length : Int))))
theorem f21_run {aA0 : List Int} {aLeft1 : Int} {r : Int} {l1 : Nat} (hk : f21 aA0 aLeft1 = some r) (hlk : 0 < lk.length := by simp) : runL Try.prog hh 21 [litL l1 0 aA0, iv aLeft1] H lk = some (iv r, H) := by
 refine run_start Try.func21 rfl Try.ntmps21 Try.results21 rfl rfl fun hO => ?_
 unfold f21 at hk
 refine lsq (lrg (pA (.int _ _) (pE (gn (lsq (lrg ?_))))))
 refine pM (.int _ _) ?_
 refine pM (.lit _ _ _) ?_
 refine pLen tS22 ?_
 refine pBi ?_
 refine pA (.int _ _) (pE (gn (lsq (lsq (lrg ?_)))))
 refine pM (.int _ _) ?_
 refine pBi (pE (gn (lck hk (fun hk => ?_) (fun hk => ?_))))
 ·refine lsq (lrg (pA (.int _ _) (pE (gn (lrt (gr ?_))))))
  cases hk; exact fin0 hO
 ·refine lsk (gn (lsq (lrg (pM (.int _ _) ?_))))
  refine pA (.int _ _) (pE (gn (lrt ?_)))
  cases hk; exact fin0 hO
def f74 (aA0 : List Turn) (aLeft1 : Int) : Option Int :=
 (bif decide ((w64 (aLeft1 - (aA0.length : Int))) < (0:Int)) then some (-1:Int) else some (w64 (aLeft1 - (aA0.length : Int))))
theorem f74_run {aA0 : List Turn} {aLeft1 : Int} {r : Int} {l1 : Nat} (hk : f74 aA0 aLeft1 = some r) (hlk : 0 < lk.length := by simp) : runL Try.prog hh 74 [litL l1 0 aA0, iv aLeft1] H lk = some (iv r, H) := by
 refine run_start Try.func74 rfl Try.ntmps74 Try.results74 rfl rfl fun hO => ?_
 unfold f74 at hk
 refine lsq (lrg (pA (.int _ _) (pE (gn (lsq (lrg ?_))))))
 refine pM (.int _ _) ?_
 refine pM (.lit _ _ _) ?_
 refine pLen tS79 ?_
 refine pBi ?_
 refine pA (.int _ _) (pE (gn (lsq (lsq (lrg ?_)))))
 refine pM (.int _ _) ?_
 refine pBi (pE (gn (lck hk (fun hk => ?_) (fun hk => ?_))))
 ·refine lsq (lrg (pA (.int _ _) (pE (gn (lrt (gr ?_))))))
  cases hk; exact fin0 hO
 ·refine lsk (gn (lsq (lrg (pM (.int _ _) ?_))))
  refine pA (.int _ _) (pE (gn (lrt ?_)))
  cases hk; exact fin0 hO
def f54 (aA0 : Way) (aLeft1 : Int) : Option Int :=
 ((f21 aA0.Sections aLeft1).bind fun v2 => (bif decide (v2 < (0:Int)) then some (-1:Int) else ((f74 aA0.Lies v2).bind fun v3 => (bif decide (v3 < (0:Int)) then some (-1:Int) else ((f74 aA0.Flanks v3).bind fun v4 => (bif decide (v4 < (0:Int)) then some (-1:Int) else ((f21 aA0.Over v4).bind fun v5 => (bif decide (v5 < (0:Int)) then some (-1:Int) else ((f21 aA0.Near v5).bind fun v6 => (bif decide (v6 < (0:Int)) then some (-1:Int) else some v6))))))))))
theorem f54_run {aA0 : Way} {aLeft1 : Int} {r : Int} {l1 l2 l3 l4 l5 : Nat} (hk : f54 aA0 aLeft1 = some r) (hlk : 0 < lk.length := by simp) : runL Try.prog hh 54 [.agg (cWay l1 0 l2 0 l3 0 l4 0 l5 0 aA0), iv aLeft1] H lk = some (iv r, H) := by
 refine run_start Try.func54 rfl Try.ntmps54 Try.results54 rfl rfl fun hO => ?_
 unfold f54 at hk
 refine lsq (lrg (pBox (cs := [_, _, _, _, _]) hO tZ81 (fun b1 G hO => ?_)))
 refine pA (.int _ _) (pE (gn (lsq (lrg ?_))))
 refine pFL tF81_0 hO 0 (.lit _ _ _) tA22 ?_
 refine pM (.int _ _) (bk hk fun v2 hv2 hk => ?_)
 refine pCall (fun _ => f21_run hv2) ?_
 refine pA (.int _ _) (pE (gn (lsq (lsq (lrg ?_)))))
 refine pM (.int _ _) ?_
 refine pBi (pE (gn (lck hk (fun hk => ?_) (fun hk => ?_))))
 ·refine lsq (lrg (pA (.int _ _) (pE (gn (lrt (gr ?_))))))
  cases hk; exact fin0 hO
 ·refine lsk (gn (lsq (lrg (pFL tF81_1 hO 0 (.lit _ _ _) tA79 ?_))))
  refine pM (.int _ _) (bk hk fun v3 hv3 hk => ?_)
  refine pCall (fun _ => f74_run hv3) ?_
  refine pA (.int _ _) (pE (gn (lsq (lsq (lrg ?_)))))
  refine pM (.int _ _) ?_
  refine pBi (pE (gn (lck hk (fun hk => ?_) (fun hk => ?_))))
  ·refine lsq (lrg (pA (.int _ _) (pE (gn (lrt (gr ?_))))))
   cases hk; exact fin0 hO
  ·refine lsk (gn (lsq (lrg (pFL tF81_2 hO 0 (.lit _ _ _) tA79 ?_))))
   refine pM (.int _ _) (bk hk fun v4 hv4 hk => ?_)
   refine pCall (fun _ => f74_run hv4) ?_
   refine pA (.int _ _) (pE (gn (lsq (lsq (lrg ?_)))))
   refine pM (.int _ _) ?_
   refine pBi (pE (gn (lck hk (fun hk => ?_) (fun hk => ?_))))
   ·refine lsq (lrg (pA (.int _ _) (pE (gn (lrt (gr ?_))))))
    cases hk; exact fin0 hO
   ·refine lsk (gn (lsq (lrg (pFL tF81_3 hO 0 (.lit _ _ _) tA22 ?_))))
    refine pM (.int _ _) (bk hk fun v5 hv5 hk => ?_)
    refine pCall (fun _ => f21_run hv5) ?_
    refine pA (.int _ _) (pE (gn (lsq (lsq (lrg ?_)))))
    refine pM (.int _ _) ?_
    refine pBi (pE (gn (lck hk (fun hk => ?_) (fun hk => ?_))))
    ·refine lsq (lrg (pA (.int _ _) (pE (gn (lrt (gr ?_))))))
     cases hk; exact fin0 hO
    ·refine lsk (gn (lsq (lrg (pFL tF81_4 hO 0 (.lit _ _ _) tA22 ?_))))
     refine pM (.int _ _) (bk hk fun v6 hv6 hk => ?_)
     refine pCall (fun _ => f21_run hv6) ?_
     refine pA (.int _ _) (pE (gn (lsq (lsq (lrg ?_)))))
     refine pM (.int _ _) ?_
     refine pBi (pE (gn (lck hk (fun hk => ?_) (fun hk => ?_))))
     ·refine lsq (lrg (pA (.int _ _) (pE (gn (lrt (gr ?_))))))
      cases hk; exact fin0 hO
     ·refine lsk (gn (lsq (lrg (pM (.int _ _) ?_))))
      refine pA (.int _ _) (pE (gn (lrt ?_)))
      cases hk; exact fin0 hO
def f22_L1 (aA0 : List Way) : (Int × Int) → Option ((Int × Int) ⊕ Int) := fun s =>
 (bif decide (s.2 < (aA0.length : Int)) then ((getI aA0 s.2).bind fun c3 => ((f54 c3 s.1).bind fun v4 => (bif decide (v4 < (0:Int)) then ((some (-1:Int)).map Sum.inr) else some (.inl (v4, w64 (s.2 + (1:Int))))))) else ((some s.1).map Sum.inr))
def f22 (aA0 : List Way) (aLeft1 : Int) : Option Int :=
 (bif decide ((w64 (aLeft1 - (aA0.length : Int))) < (0:Int)) then some (-1:Int) else (loopO (f22_L1 aA0) (w64 (aLeft1 - (aA0.length : Int)), (0:Int))))
theorem f22_run {aA0 : List Way} {aLeft1 : Int} {r : Int} {l1 m2 : Nat} (hk : f22 aA0 aLeft1 = some r) (hlk : 0 < lk.length := by simp) : runL Try.prog hh 22 [litL l1 m2 aA0, iv aLeft1] H lk = some (iv r, H) := by
 refine run_start Try.func22 rfl Try.ntmps22 Try.results22 rfl rfl fun hO => ?_
 unfold f22 at hk
 refine lsq (lrg (pA (.int _ _) (pE (gn (lsq (lrg ?_))))))
 refine pM (.int _ _) ?_
 refine pM (.lit _ _ _) ?_
 refine pLen tS23 ?_
 refine pBi ?_
 refine pA (.int _ _) (pE (gn (lsq (lsq (lrg ?_)))))
 refine pM (.int _ _) ?_
 refine pBi (pE (gn (lck hk (fun hk => ?_) (fun hk => ?_))))
 ·refine lsq (lrg (pA (.int _ _) (pE (gn (lrt (gr ?_))))))
  cases hk; exact fin0 hO
 ·refine lsk (gn (lsq (lsq (lrg (pA (.int _ _) (pE (gn (lbl ?_))))))))
  refine wpL_loopO (F := f22_L1 aA0) (fun s S' => ∃ (J : Nat → V) (G : Heap), Owns H G [] ∧ S' = ⟨hav [(0, litL l1 m2 aA0), (1, iv s.1), (5, iv s.2)] J, G⟩) hk ⟨_, _, hO, sh⟩ ?_
  rintro ⟨x1, x2⟩ _ y1 ⟨J, G, hO, rfl⟩ hk hx1
  refine lsq (lsq (lrg (pM (.int _ _) ?_)))
  refine pM (.lit _ _ _) ?_
  refine pLen tS23 ?_
  refine pBi (pE (gn (lck hk (fun hk => ?_) (fun hk => ?_))))
  ·refine lsk (gn (lsq (lbl (lsq (lrg (pM (.lit _ _ _) ?_))))))
   refine pM (.int _ _) (bk hk fun c3 hc3 hk => ?_)
   refine pX hc3 tE23 tZ81 ?_
   refine pLp (.agg [_, _, _, _, _]) (rd2 (lm := m2) (off := 0) hc3 tA81 tZ81) ?_
   refine pM (.int _ _) (bk hk fun v4 hv4 hk => ?_)
   refine pCall (fun _ => f54_run hv4) ?_
   refine pA (.int _ _) (pE (gn (lsq (lrg ?_))))
   refine pM (.int _ _) ?_
   refine pBi (pE (gn (lck hk (fun hk => ?_) (fun hk => ?_))))
   ·refine lsq (lrg (pA (.int _ _) (pE (gn (lrt (br (gr (gr (br (gr (have hk := lx hx1 hk; ?_)))))))))))
    cases hk; exact fin0 hO
   ·refine lsk (bn (gn (lrg (pM (.int _ _) ?_))))
    refine pBi ?_
    refine pA (.int _ _) (pE (gn ?_))
    cases hk; exact ⟨_, rfl, _, _, hO, sh⟩
  ·refine lex (ge (ge (be (gn (have hk := lx hx1 hk; lsq (lrg (pM (.int _ _) ?_)))))))
   refine pA (.int _ _) (pE (gn (lrt ?_)))
   cases hk; exact fin0 hO
def f24 (aA0 : List Bool) (aLeft1 : Int) : Option Int :=
 (bif decide ((w64 (aLeft1 - (aA0.length : Int))) < (0:Int)) then some (-1:Int) else some (w64 (aLeft1 - (aA0.length : Int))))
theorem f24_run {aA0 : List Bool} {aLeft1 : Int} {r : Int} {l1 : Nat} (hk : f24 aA0 aLeft1 = some r) (hlk : 0 < lk.length := by simp) : runL Try.prog hh 24 [litL l1 0 aA0, iv aLeft1] H lk = some (iv r, H) := by
 refine run_start Try.func24 rfl Try.ntmps24 Try.results24 rfl rfl fun hO => ?_
 unfold f24 at hk
 refine lsq (lrg (pA (.int _ _) (pE (gn (lsq (lrg ?_))))))
 refine pM (.int _ _) ?_
 refine pM (.lit _ _ _) ?_
 refine pLen tS27 ?_
 refine pBi ?_
 refine pA (.int _ _) (pE (gn (lsq (lsq (lrg ?_)))))
 refine pM (.int _ _) ?_
 refine pBi (pE (gn (lck hk (fun hk => ?_) (fun hk => ?_))))
 ·refine lsq (lrg (pA (.int _ _) (pE (gn (lrt (gr ?_))))))
  cases hk; exact fin0 hO
 ·refine lsk (gn (lsq (lrg (pM (.int _ _) ?_))))
  refine pA (.int _ _) (pE (gn (lrt ?_)))
  cases hk; exact fin0 hO
def f23_L1 (aA0 : List (List Bool)) : (Int × Int) → Option ((Int × Int) ⊕ Int) := fun s =>
 (bif decide (s.2 < (aA0.length : Int)) then ((getI aA0 s.2).bind fun c3 => ((f24 c3 s.1).bind fun v4 => (bif decide (v4 < (0:Int)) then ((some (-1:Int)).map Sum.inr) else some (.inl (v4, w64 (s.2 + (1:Int))))))) else ((some s.1).map Sum.inr))
def f23 (aA0 : List (List Bool)) (aLeft1 : Int) : Option Int :=
 (bif decide ((w64 (aLeft1 - (aA0.length : Int))) < (0:Int)) then some (-1:Int) else (loopO (f23_L1 aA0) (w64 (aLeft1 - (aA0.length : Int)), (0:Int))))
theorem f23_run {aA0 : List (List Bool)} {aLeft1 : Int} {r : Int} {l1 m2 : Nat} (hk : f23 aA0 aLeft1 = some r) (hlk : 0 < lk.length := by simp) : runL Try.prog hh 23 [litL l1 m2 aA0, iv aLeft1] H lk = some (iv r, H) := by
 refine run_start Try.func23 rfl Try.ntmps23 Try.results23 rfl rfl fun hO => ?_
 unfold f23 at hk
 refine lsq (lrg (pA (.int _ _) (pE (gn (lsq (lrg ?_))))))
 refine pM (.int _ _) ?_
 refine pM (.lit _ _ _) ?_
 refine pLen tS24 ?_
 refine pBi ?_
 refine pA (.int _ _) (pE (gn (lsq (lsq (lrg ?_)))))
 refine pM (.int _ _) ?_
 refine pBi (pE (gn (lck hk (fun hk => ?_) (fun hk => ?_))))
 ·refine lsq (lrg (pA (.int _ _) (pE (gn (lrt (gr ?_))))))
  cases hk; exact fin0 hO
 ·refine lsk (gn (lsq (lsq (lrg (pA (.int _ _) (pE (gn (lbl ?_))))))))
  refine wpL_loopO (F := f23_L1 aA0) (fun s S' => ∃ (J : Nat → V) (G : Heap), Owns H G [] ∧ S' = ⟨hav [(0, litL l1 m2 aA0), (1, iv s.1), (5, iv s.2)] J, G⟩) hk ⟨_, _, hO, sh⟩ ?_
  rintro ⟨x1, x2⟩ _ y1 ⟨J, G, hO, rfl⟩ hk hx1
  refine lsq (lsq (lrg (pM (.int _ _) ?_)))
  refine pM (.lit _ _ _) ?_
  refine pLen tS24 ?_
  refine pBi (pE (gn (lck hk (fun hk => ?_) (fun hk => ?_))))
  ·refine lsk (gn (lsq (lbl (lsq (lrg (pM (.lit _ _ _) ?_))))))
   refine pM (.int _ _) (bk hk fun c3 hc3 hk => ?_)
   refine pX hc3 tE24 tZ27 ?_
   refine pLp (.lit _ _ _) (rd1 (lm := m2) (off := 0) hc3 tA27) ?_
   refine pM (.int _ _) (bk hk fun v4 hv4 hk => ?_)
   refine pCall (fun _ => f24_run hv4) ?_
   refine pA (.int _ _) (pE (gn (lsq (lrg ?_))))
   refine pM (.int _ _) ?_
   refine pBi (pE (gn (lck hk (fun hk => ?_) (fun hk => ?_))))
   ·refine lsq (lrg (pA (.int _ _) (pE (gn (lrt (br (gr (gr (br (gr (have hk := lx hx1 hk; ?_)))))))))))
    cases hk; exact fin0 hO
   ·refine lsk (bn (gn (lrg (pM (.int _ _) ?_))))
    refine pBi ?_
    refine pA (.int _ _) (pE (gn ?_))
    cases hk; exact ⟨_, rfl, _, _, hO, sh⟩
  ·refine lex (ge (ge (be (gn (have hk := lx hx1 hk; lsq (lrg (pM (.int _ _) ?_)))))))
   refine pA (.int _ _) (pE (gn (lrt ?_)))
   cases hk; exact fin0 hO
def f7 (aA0 : Plan) (aLeft1 : Int) : Option Int :=
 ((f21 aA0.Switches aLeft1).bind fun v2 => (bif decide (v2 < (0:Int)) then some (-1:Int) else ((f22 aA0.Ways v2).bind fun v3 => (bif decide (v3 < (0:Int)) then some (-1:Int) else ((f23 aA0.Bars v3).bind fun v4 => (bif decide (v4 < (0:Int)) then some (-1:Int) else some v4))))))
theorem f7_run {aA0 : Plan} {aLeft1 : Int} {r : Int} {l1 l2 m3 l4 m5 : Nat} (hk : f7 aA0 aLeft1 = some r) (hlk : 0 < lk.length := by simp) : runL Try.prog hh 7 [.agg (cPlan l1 0 l2 m3 l4 m5 aA0), iv aLeft1] H lk = some (iv r, H) := by
 refine run_start Try.func7 rfl Try.ntmps7 Try.results7 rfl rfl fun hO => ?_
 unfold f7 at hk
 refine lsq (lrg (pBox (cs := [_, _, _, _, _]) hO tZ26 (fun b1 G hO => ?_)))
 refine pA (.int _ _) (pE (gn (lsq (lrg ?_))))
 refine pFL tF26_1 hO 0 (.lit _ _ _) tA22 ?_
 refine pM (.int _ _) (bk hk fun v2 hv2 hk => ?_)
 refine pCall (fun _ => f21_run hv2) ?_
 refine pA (.int _ _) (pE (gn (lsq (lsq (lrg ?_)))))
 refine pM (.int _ _) ?_
 refine pBi (pE (gn (lck hk (fun hk => ?_) (fun hk => ?_))))
 ·refine lsq (lrg (pA (.int _ _) (pE (gn (lrt (gr ?_))))))
  cases hk; exact fin0 hO
 ·refine lsk (gn (lsq (lrg (pFL tF26_2 hO 0 (.lit _ _ _) tA23 ?_))))
  refine pM (.int _ _) (bk hk fun v3 hv3 hk => ?_)
  refine pCall (fun _ => f22_run hv3) ?_
  refine pA (.int _ _) (pE (gn (lsq (lsq (lrg ?_)))))
  refine pM (.int _ _) ?_
  refine pBi (pE (gn (lck hk (fun hk => ?_) (fun hk => ?_))))
  ·refine lsq (lrg (pA (.int _ _) (pE (gn (lrt (gr ?_))))))
   cases hk; exact fin0 hO
  ·refine lsk (gn (lsq (lrg (pFL tF26_3 hO 0 (.lit _ _ _) tA24 ?_))))
   refine pM (.int _ _) (bk hk fun v4 hv4 hk => ?_)
   refine pCall (fun _ => f23_run hv4) ?_
   refine pA (.int _ _) (pE (gn (lsq (lsq (lrg ?_)))))
   refine pM (.int _ _) ?_
   refine pBi (pE (gn (lck hk (fun hk => ?_) (fun hk => ?_))))
   ·refine lsq (lrg (pA (.int _ _) (pE (gn (lrt (gr ?_))))))
    cases hk; exact fin0 hO
   ·refine lsk (gn (lsq (lrg (pM (.int _ _) ?_))))
    refine pA (.int _ _) (pE (gn (lrt ?_)))
    cases hk; exact fin0 hO
def f25 (aA0 : List Point) (aLeft1 : Int) : Option Int :=
 (bif decide ((w64 (aLeft1 - (aA0.length : Int))) < (0:Int)) then some (-1:Int) else some (w64 (aLeft1 - (aA0.length : Int))))
theorem f25_run {aA0 : List Point} {aLeft1 : Int} {r : Int} {l1 : Nat} (hk : f25 aA0 aLeft1 = some r) (hlk : 0 < lk.length := by simp) : runL Try.prog hh 25 [litL l1 0 aA0, iv aLeft1] H lk = some (iv r, H) := by
 refine run_start Try.func25 rfl Try.ntmps25 Try.results25 rfl rfl fun hO => ?_
 unfold f25 at hk
 refine lsq (lrg (pA (.int _ _) (pE (gn (lsq (lrg ?_))))))
 refine pM (.int _ _) ?_
 refine pM (.lit _ _ _) ?_
 refine pLen tS28 ?_
 refine pBi ?_
 refine pA (.int _ _) (pE (gn (lsq (lsq (lrg ?_)))))
 refine pM (.int _ _) ?_
 refine pBi (pE (gn (lck hk (fun hk => ?_) (fun hk => ?_))))
 ·refine lsq (lrg (pA (.int _ _) (pE (gn (lrt (gr ?_))))))
  cases hk; exact fin0 hO
 ·refine lsk (gn (lsq (lrg (pM (.int _ _) ?_))))
  refine pA (.int _ _) (pE (gn (lrt ?_)))
  cases hk; exact fin0 hO
def f55 (aA0 : Held) (aLeft1 : Int) : Option Int :=
 ((f24 aA0.Been aLeft1).bind fun v2 => (bif decide (v2 < (0:Int)) then some (-1:Int) else some v2))
theorem f55_run {aA0 : Held} {aLeft1 : Int} {r : Int} {l1 : Nat} (hk : f55 aA0 aLeft1 = some r) (hlk : 0 < lk.length := by simp) : runL Try.prog hh 55 [.agg [iv aA0.State, iv aA0.Gone, litL l1 0 aA0.Been, .bool aA0.Shown, iv aA0.Timer], iv aLeft1] H lk = some (iv r, H) := by
 refine run_start Try.func55 rfl Try.ntmps55 Try.results55 rfl rfl fun hO => ?_
 unfold f55 at hk
 refine lsq (lrg (pBox (cs := [_, _, _, _, _]) hO tZ83 (fun b1 G hO => ?_)))
 refine pA (.int _ _) (pE (gn (lsq (lrg ?_))))
 refine pFL tF83_2 hO 0 (.lit _ _ _) tA27 ?_
 refine pM (.int _ _) (bk hk fun v2 hv2 hk => ?_)
 refine pCall (fun _ => f24_run hv2) ?_
 refine pA (.int _ _) (pE (gn (lsq (lsq (lrg ?_)))))
 refine pM (.int _ _) ?_
 refine pBi (pE (gn (lck hk (fun hk => ?_) (fun hk => ?_))))
 ·refine lsq (lrg (pA (.int _ _) (pE (gn (lrt (gr ?_))))))
  cases hk; exact fin0 hO
 ·refine lsk (gn (lsq (lrg (pM (.int _ _) ?_))))
  refine pA (.int _ _) (pE (gn (lrt ?_)))
  cases hk; exact fin0 hO
def f26_L1 (aA0 : List Held) : (Int × Int) → Option ((Int × Int) ⊕ Int) := fun s =>
 (bif decide (s.2 < (aA0.length : Int)) then ((getI aA0 s.2).bind fun c3 => ((f55 c3 s.1).bind fun v4 => (bif decide (v4 < (0:Int)) then ((some (-1:Int)).map Sum.inr) else some (.inl (v4, w64 (s.2 + (1:Int))))))) else ((some s.1).map Sum.inr))
def f26 (aA0 : List Held) (aLeft1 : Int) : Option Int :=
 (bif decide ((w64 (aLeft1 - (aA0.length : Int))) < (0:Int)) then some (-1:Int) else (loopO (f26_L1 aA0) (w64 (aLeft1 - (aA0.length : Int)), (0:Int))))
theorem f26_run {aA0 : List Held} {aLeft1 : Int} {r : Int} {l1 m2 : Nat} (hk : f26 aA0 aLeft1 = some r) (hlk : 0 < lk.length := by simp) : runL Try.prog hh 26 [litL l1 m2 aA0, iv aLeft1] H lk = some (iv r, H) := by
 refine run_start Try.func26 rfl Try.ntmps26 Try.results26 rfl rfl fun hO => ?_
 unfold f26 at hk
 refine lsq (lrg (pA (.int _ _) (pE (gn (lsq (lrg ?_))))))
 refine pM (.int _ _) ?_
 refine pM (.lit _ _ _) ?_
 refine pLen tS29 ?_
 refine pBi ?_
 refine pA (.int _ _) (pE (gn (lsq (lsq (lrg ?_)))))
 refine pM (.int _ _) ?_
 refine pBi (pE (gn (lck hk (fun hk => ?_) (fun hk => ?_))))
 ·refine lsq (lrg (pA (.int _ _) (pE (gn (lrt (gr ?_))))))
  cases hk; exact fin0 hO
 ·refine lsk (gn (lsq (lsq (lrg (pA (.int _ _) (pE (gn (lbl ?_))))))))
  refine wpL_loopO (F := f26_L1 aA0) (fun s S' => ∃ (J : Nat → V) (G : Heap), Owns H G [] ∧ S' = ⟨hav [(0, litL l1 m2 aA0), (1, iv s.1), (5, iv s.2)] J, G⟩) hk ⟨_, _, hO, sh⟩ ?_
  rintro ⟨x1, x2⟩ _ y1 ⟨J, G, hO, rfl⟩ hk hx1
  refine lsq (lsq (lrg (pM (.int _ _) ?_)))
  refine pM (.lit _ _ _) ?_
  refine pLen tS29 ?_
  refine pBi (pE (gn (lck hk (fun hk => ?_) (fun hk => ?_))))
  ·refine lsk (gn (lsq (lbl (lsq (lrg (pM (.lit _ _ _) ?_))))))
   refine pM (.int _ _) (bk hk fun c3 hc3 hk => ?_)
   refine pX hc3 tE29 tZ83 ?_
   refine pLp (.agg [_, _, _, _, _]) (rd2 (lm := m2) (off := 0) hc3 tA83 tZ83) ?_
   refine pM (.int _ _) (bk hk fun v4 hv4 hk => ?_)
   refine pCall (fun _ => f55_run hv4) ?_
   refine pA (.int _ _) (pE (gn (lsq (lrg ?_))))
   refine pM (.int _ _) ?_
   refine pBi (pE (gn (lck hk (fun hk => ?_) (fun hk => ?_))))
   ·refine lsq (lrg (pA (.int _ _) (pE (gn (lrt (br (gr (gr (br (gr (have hk := lx hx1 hk; ?_)))))))))))
    cases hk; exact fin0 hO
   ·refine lsk (bn (gn (lrg (pM (.int _ _) ?_))))
    refine pBi ?_
    refine pA (.int _ _) (pE (gn ?_))
    cases hk; exact ⟨_, rfl, _, _, hO, sh⟩
  ·refine lex (ge (ge (be (gn (have hk := lx hx1 hk; lsq (lrg (pM (.int _ _) ?_)))))))
   refine pA (.int _ _) (pE (gn (lrt ?_)))
   cases hk; exact fin0 hO
def f8 (aA0 : Frame) (aLeft1 : Int) : Option Int :=
 ((f24 aA0.Occ aLeft1).bind fun v2 => (bif decide (v2 < (0:Int)) then some (-1:Int) else ((f25 aA0.Points v2).bind fun v3 => (bif decide (v3 < (0:Int)) then some (-1:Int) else ((f26 aA0.Ways v3).bind fun v4 => (bif decide (v4 < (0:Int)) then some (-1:Int) else some v4))))))
theorem f8_run {aA0 : Frame} {aLeft1 : Int} {r : Int} {l1 l2 l3 m4 : Nat} (hk : f8 aA0 aLeft1 = some r) (hlk : 0 < lk.length := by simp) : runL Try.prog hh 8 [.agg (cFrame l1 0 l2 0 l3 m4 aA0), iv aLeft1] H lk = some (iv r, H) := by
 refine run_start Try.func8 rfl Try.ntmps8 Try.results8 rfl rfl fun hO => ?_
 unfold f8 at hk
 refine lsq (lrg (pBox (cs := [_, _, _, _]) hO tZ31 (fun b1 G hO => ?_)))
 refine pA (.int _ _) (pE (gn (lsq (lrg ?_))))
 refine pFL tF31_1 hO 0 (.lit _ _ _) tA27 ?_
 refine pM (.int _ _) (bk hk fun v2 hv2 hk => ?_)
 refine pCall (fun _ => f24_run hv2) ?_
 refine pA (.int _ _) (pE (gn (lsq (lsq (lrg ?_)))))
 refine pM (.int _ _) ?_
 refine pBi (pE (gn (lck hk (fun hk => ?_) (fun hk => ?_))))
 ·refine lsq (lrg (pA (.int _ _) (pE (gn (lrt (gr ?_))))))
  cases hk; exact fin0 hO
 ·refine lsk (gn (lsq (lrg (pFL tF31_2 hO 0 (.lit _ _ _) tA28 ?_))))
  refine pM (.int _ _) (bk hk fun v3 hv3 hk => ?_)
  refine pCall (fun _ => f25_run hv3) ?_
  refine pA (.int _ _) (pE (gn (lsq (lsq (lrg ?_)))))
  refine pM (.int _ _) ?_
  refine pBi (pE (gn (lck hk (fun hk => ?_) (fun hk => ?_))))
  ·refine lsq (lrg (pA (.int _ _) (pE (gn (lrt (gr ?_))))))
   cases hk; exact fin0 hO
  ·refine lsk (gn (lsq (lrg (pFL tF31_3 hO 0 (.lit _ _ _) tA29 ?_))))
   refine pM (.int _ _) (bk hk fun v4 hv4 hk => ?_)
   refine pCall (fun _ => f26_run hv4) ?_
   refine pA (.int _ _) (pE (gn (lsq (lsq (lrg ?_)))))
   refine pM (.int _ _) ?_
   refine pBi (pE (gn (lck hk (fun hk => ?_) (fun hk => ?_))))
   ·refine lsq (lrg (pA (.int _ _) (pE (gn (lrt (gr ?_))))))
    cases hk; exact fin0 hO
   ·refine lsk (gn (lsq (lrg (pM (.int _ _) ?_))))
    refine pA (.int _ _) (pE (gn (lrt ?_)))
    cases hk; exact fin0 hO
def f33_L1 (aA0 : List Int) : ((List Int) × Int) → Option (((List Int) × Int) ⊕ (List Int)) := fun s =>
 (bif decide (s.2 < (aA0.length : Int)) then ((getI aA0 s.2).bind fun c5 => ((getI s.1 s.2).bind fun c6 => some (.inl (s.1.set s.2.toNat c5, w64 (s.2 + (1:Int)))))) else ((some s.1).map Sum.inr))
def f33 (aA0 : List Int) : Option (List Int) :=
 ((makeB 8 (aA0.length : Int)).bind fun m1 => (loopO (f33_L1 aA0) (List.replicate m1 (0 : Int), (0:Int))))
theorem f33_run {aA0 : List Int} {r : (List Int)} {l1 : Nat} (hk : f33 aA0 = some r) (hlk : 0 < lk.length := by simp) : runL Try.prog hh 33 [litL l1 0 aA0] H lk = some (litL 0 0 r, H) := by
 refine run_start Try.func33 rfl Try.ntmps33 Try.results33 rfl rfl fun hO => ?_
 unfold f33 at hk
 refine lsq (lrg (pA (.tl 0 []) (pE (gn (lsq (lrg ?_))))))
 refine pM (.lit _ _ _) ?_
 refine pLen tS22 (bk hk fun m1 hm1 hk => ?_)
 refine pMk hO hm1 (0 : Int) tE22 tZ3 tB3 t03 (fun b2 G hO => ?_)
 refine pA (.sl _ _ _) (pE (gn (lsq (lsq (lrg ?_)))))
 refine pA (.int _ _) (pE (gn (lbl ?_)))
 refine wpL_loopO (F := f33_L1 aA0) (fun s S' => ∃ (J : Nat → V) (G : Heap), s.1.length = m1 ∧ Owns H G [.blk b2 (.cells 1 (flatL 0 s.1))] ∧ S' = ⟨hav [(0, litL l1 0 aA0), (3, .sl b2 0 m1), (4, iv s.2)] J, G⟩) hk ⟨_, _, List.length_replicate, hO, sh⟩ ?_
 rintro ⟨x3, x4⟩ _ y1 ⟨J, G, hl3, hO, rfl⟩ hk hx1
 refine lsq (lsq (lrg (pM (.int _ _) ?_)))
 refine pM (.lit _ _ _) ?_
 refine pLen tS22 ?_
 refine pBi (pE (gn (lck hk (fun hk => ?_) (fun hk => ?_))))
 ·refine lsk (gn (lsq (lbl (lrg (pM (.sl _ _ _) ?_)))))
  refine pM (.int _ _) ?_
  refine pM (.lit _ _ _) ?_
  refine pM (.int _ _) (bk hk fun c5 hc5 hk => ?_)
  refine pX hc5 tE22 tZ3 ?_
  refine pLp (.int _ _) (rd1 (lm := 0) (off := 0) hc5 tA3) (bk hk fun c6 hc6 hk => ?_)
  refine pXm hl3 hc6 tE22 tZ3 ?_
  refine pSm hO 0 hc6 tZ3 rfl c5 (.int _ _) (fun G hO => pE (bn (gn (lrg ?_))))
  refine pM (.int _ _) ?_
  refine pBi ?_
  refine pA (.int _ _) (pE (gn ?_))
  cases hk; exact ⟨_, rfl, _, _, (List.length_set.trans hl3), hO, sh⟩
 ·refine lex (ge (ge (be (gn (have hk := lx hx1 hk; lsq (lrg (pM (.sl _ _ _) ?_)))))))
  refine pA (.sl _ _ _) (pE (gn (lrt ?_)))
  replace hk := Option.some.inj hk; subst hk; exact finZ hO (fz_made (xs := x3) hl3 hlk 0) (resT (.sl _ _ _) resN)
def f97 (aA0 : Turn) : Option Turn :=
 some aA0
theorem f97_run {aA0 : Turn} {r : Turn} (hk : f97 aA0 = some r) (hlk : 0 < lk.length := by simp) : runL Try.prog hh 97 [.agg [iv aA0.Switch, iv aA0.Lie]] H lk = some (.agg [iv r.Switch, iv r.Lie], H) := by
 refine run_start Try.func97 rfl Try.ntmps97 Try.results97 rfl rfl fun hO => ?_
 unfold f97 at hk
 refine lsq (lrg (pBox (cs := [_, _]) hO tZ128 (fun b1 G hO => pNew hO tZ102 t0102 (fun b2 G hO => pE (gn (lsq (lrg (pNew hO tZ102 t0102 (fun b3 G hO => pE (gn (lsq (lrg ?_))))))))))))
 refine pFL tF128_0 hO 2 (.int _ _) tA3 ?_
 refine pF tF102_0 ?_
 refine pSt (xs := [_]) hO 0 tZ3 rfl (fun G hO => pE (gn (lsq (lrg ?_))))
 refine pFL tF128_1 hO 2 (.int _ _) tA3 ?_
 refine pF tF102_1 ?_
 refine pSt (xs := [_]) hO 0 tZ3 rfl (fun G hO => pE (gn (lsq (lrg ?_))))
 refine pLs hO 0 [_, _] tA102 tZ102 ?_
 refine pSt (xs := [_, _]) hO 1 tZ102 rfl (fun G hO => pE (gn (lrt ?_)))
 replace hk := Option.some.inj hk; subst hk; exact finZ hO (fz_agg (n := 2) (fz_c (fz_int _ _) (fz_c (fz_int _ _) (fz_n)))) (resS hO 1 [_, _] tA102 tZ102 resN)
def f78_L1 (aA0 : List Turn) : ((List Turn) × Int) → Option (((List Turn) × Int) ⊕ (List Turn)) := fun s =>
 (bif decide (s.2 < (aA0.length : Int)) then ((getI aA0 s.2).bind fun c5 => ((f97 c5).bind fun v6 => ((getI s.1 s.2).bind fun c7 => some (.inl (s.1.set s.2.toNat v6, w64 (s.2 + (1:Int))))))) else ((some s.1).map Sum.inr))
def f78 (aA0 : List Turn) : Option (List Turn) :=
 ((makeB 16 (aA0.length : Int)).bind fun m1 => (loopO (f78_L1 aA0) (List.replicate m1 (⟨0, 0⟩ : Turn), (0:Int))))
theorem f78_run {aA0 : List Turn} {r : (List Turn)} {l1 : Nat} (hk : f78 aA0 = some r) (hlk : 0 < lk.length := by simp) : runL Try.prog hh 78 [litL l1 0 aA0] H lk = some (litL 0 0 r, H) := by
 refine run_start Try.func78 rfl Try.ntmps78 Try.results78 rfl rfl fun hO => ?_
 unfold f78 at hk
 refine lsq (lrg (pA (.tl 0 []) (pE (gn (lsq (lrg ?_))))))
 refine pM (.lit _ _ _) ?_
 refine pLen tS79 (bk hk fun m1 hm1 hk => ?_)
 refine pMk hO hm1 (⟨0, 0⟩ : Turn) tE87 tZ102 tB102 t0102 (fun b2 G hO => ?_)
 refine pA (.sl _ _ _) (pE (gn (lsq (lsq (lrg ?_)))))
 refine pA (.int _ _) (pE (gn (lbl ?_)))
 refine wpL_loopO (F := f78_L1 aA0) (fun s S' => ∃ (J : Nat → V) (G : Heap), s.1.length = m1 ∧ Owns H G [.blk b2 (.cells 2 (flatL 0 s.1))] ∧ S' = ⟨hav [(0, litL l1 0 aA0), (3, .sl b2 0 m1), (4, iv s.2)] J, G⟩) hk ⟨_, _, List.length_replicate, hO, sh⟩ ?_
 rintro ⟨x3, x4⟩ _ y1 ⟨J, G, hl3, hO, rfl⟩ hk hx1
 refine lsq (lsq (lrg (pM (.int _ _) ?_)))
 refine pM (.lit _ _ _) ?_
 refine pLen tS79 ?_
 refine pBi (pE (gn (lck hk (fun hk => ?_) (fun hk => ?_))))
 ·refine lsk (gn (lsq (lbl (lrg (pM (.sl _ _ _) ?_)))))
  refine pM (.int _ _) ?_
  refine pM (.lit _ _ _) ?_
  refine pM (.int _ _) (bk hk fun c5 hc5 hk => ?_)
  refine pX hc5 tE79 tZ128 ?_
  refine pLp (.agg [_, _]) (rd2 (lm := 0) (off := 0) hc5 tA128 tZ128) (bk hk fun v6 hv6 hk => ?_)
  refine pCall (fun _ => f97_run hv6) (bk hk fun c7 hc7 hk => ?_)
  refine pXm hl3 hc7 tE87 tZ102 ?_
  refine pSm hO 0 hc7 tZ102 rfl v6 (.agg [_, _]) (fun G hO => pE (bn (gn (lrg ?_))))
  refine pM (.int _ _) ?_
  refine pBi ?_
  refine pA (.int _ _) (pE (gn ?_))
  cases hk; exact ⟨_, rfl, _, _, (List.length_set.trans hl3), hO, sh⟩
 ·refine lex (ge (ge (be (gn (have hk := lx hx1 hk; lsq (lrg (pM (.sl _ _ _) ?_)))))))
  refine pA (.sl _ _ _) (pE (gn (lrt ?_)))
  replace hk := Option.some.inj hk; subst hk; exact finZ hO (fz_made (xs := x3) hl3 hlk 0) (resT (.sl _ _ _) resN)
def f58 (aA0 : Way) : Option Way :=
 ((f33 aA0.Sections).bind fun v4 => ((f78 aA0.Lies).bind fun v5 => ((f78 aA0.Flanks).bind fun v6 => ((f33 aA0.Over).bind fun v7 => ((f33 aA0.Near).bind fun v8 => some ({ Sections := v4, Lies := v5, Flanks := v6, Over := v7, Near := v8 } : Way))))))
theorem f58_run {aA0 : Way} {r : Way} {l1 l2 l3 l4 l5 : Nat} (hk : f58 aA0 = some r) (hlk : 0 < lk.length := by simp) : runL Try.prog hh 58 [.agg (cWay l1 0 l2 0 l3 0 l4 0 l5 0 aA0)] H lk = some (.agg (cWay 0 0 0 0 0 0 0 0 0 0 r), H) := by
 refine run_start Try.func58 rfl Try.ntmps58 Try.results58 rfl rfl fun hO => ?_
 unfold f58 at hk
 refine lsq (lrg (pBox (cs := [_, _, _, _, _]) hO tZ81 (fun b1 G hO => pNew hO tZ89 t089 (fun b2 G hO => pE (gn (lsq (lrg (pNew hO tZ89 t089 (fun b3 G hO => pE (gn (lsq (lrg ?_))))))))))))
 refine pFL tF81_0 hO 2 (.lit _ _ _) tA22 (bk hk fun v4 hv4 hk => ?_)
 refine pCall (fun _ => f33_run hv4) ?_
 refine pF tF89_0 ?_
 refine pSt (xs := [_]) hO 0 tZ22 rfl (fun G hO => pE (gn (lsq (lrg ?_))))
 refine pFL tF81_1 hO 2 (.lit _ _ _) tA79 (bk hk fun v5 hv5 hk => ?_)
 refine pCall (fun _ => f78_run hv5) ?_
 refine pF tF89_1 ?_
 refine pSt (xs := [_]) hO 0 tZ87 rfl (fun G hO => pE (gn (lsq (lrg ?_))))
 refine pFL tF81_2 hO 2 (.lit _ _ _) tA79 (bk hk fun v6 hv6 hk => ?_)
 refine pCall (fun _ => f78_run hv6) ?_
 refine pF tF89_2 ?_
 refine pSt (xs := [_]) hO 0 tZ87 rfl (fun G hO => pE (gn (lsq (lrg ?_))))
 refine pFL tF81_3 hO 2 (.lit _ _ _) tA22 (bk hk fun v7 hv7 hk => ?_)
 refine pCall (fun _ => f33_run hv7) ?_
 refine pF tF89_3 ?_
 refine pSt (xs := [_]) hO 0 tZ22 rfl (fun G hO => pE (gn (lsq (lrg ?_))))
 refine pFL tF81_4 hO 2 (.lit _ _ _) tA22 (bk hk fun v8 hv8 hk => ?_)
 refine pCall (fun _ => f33_run hv8) ?_
 refine pF tF89_4 ?_
 refine pSt (xs := [_]) hO 0 tZ22 rfl (fun G hO => pE (gn (lsq (lrg ?_))))
 refine pLs hO 0 [_, _, _, _, _] tA89 tZ89 ?_
 refine pSt (xs := [_, _, _, _, _]) hO 1 tZ89 rfl (fun G hO => pE (gn (lrt ?_)))
 replace hk := Option.some.inj hk; subst hk; exact finZ hO (fz_agg (n := 2) (fz_c (fz_lit hlk v4) (fz_c (fz_lit hlk v5) (fz_c (fz_lit hlk v6) (fz_c (fz_lit hlk v7) (fz_c (fz_lit hlk v8) (fz_n))))))) (resS hO 1 [_, _, _, _, _] tA89 tZ89 resN)
def f34_L1 (aA0 : List Way) : ((List Way) × Int) → Option (((List Way) × Int) ⊕ (List Way)) := fun s =>
 (bif decide (s.2 < (aA0.length : Int)) then ((getI aA0 s.2).bind fun c5 => ((f58 c5).bind fun v6 => ((getI s.1 s.2).bind fun c7 => some (.inl (s.1.set s.2.toNat v6, w64 (s.2 + (1:Int))))))) else ((some s.1).map Sum.inr))
def f34 (aA0 : List Way) : Option (List Way) :=
 ((makeB 120 (aA0.length : Int)).bind fun m1 => (loopO (f34_L1 aA0) (List.replicate m1 (⟨[], [], [], [], []⟩ : Way), (0:Int))))
theorem f34_run {aA0 : List Way} {r : (List Way)} {l1 m2 : Nat} (hk : f34 aA0 = some r) (hlk : 0 < lk.length := by simp) : runL Try.prog hh 34 [litL l1 m2 aA0] H lk = some (litL 0 0 r, H) := by
 refine run_start Try.func34 rfl Try.ntmps34 Try.results34 rfl rfl fun hO => ?_
 unfold f34 at hk
 refine lsq (lrg (pA (.tl 0 []) (pE (gn (lsq (lrg ?_))))))
 refine pM (.lit _ _ _) ?_
 refine pLen tS23 (bk hk fun m1 hm1 hk => ?_)
 refine pMk hO hm1 (⟨[], [], [], [], []⟩ : Way) tE35 tZ89 tB89 t089 (fun b2 G hO => ?_)
 refine pA (.sl _ _ _) (pE (gn (lsq (lsq (lrg ?_)))))
 refine pA (.int _ _) (pE (gn (lbl ?_)))
 refine wpL_loopO (F := f34_L1 aA0) (fun s S' => ∃ (J : Nat → V) (G : Heap), s.1.length = m1 ∧ Owns H G [.blk b2 (.cells 5 (flatL 0 s.1))] ∧ S' = ⟨hav [(0, litL l1 m2 aA0), (3, .sl b2 0 m1), (4, iv s.2)] J, G⟩) hk ⟨_, _, List.length_replicate, hO, sh⟩ ?_
 rintro ⟨x3, x4⟩ _ y1 ⟨J, G, hl3, hO, rfl⟩ hk hx1
 refine lsq (lsq (lrg (pM (.int _ _) ?_)))
 refine pM (.lit _ _ _) ?_
 refine pLen tS23 ?_
 refine pBi (pE (gn (lck hk (fun hk => ?_) (fun hk => ?_))))
 ·refine lsk (gn (lsq (lbl (lrg (pM (.sl _ _ _) ?_)))))
  refine pM (.int _ _) ?_
  refine pM (.lit _ _ _) ?_
  refine pM (.int _ _) (bk hk fun c5 hc5 hk => ?_)
  refine pX hc5 tE23 tZ81 ?_
  refine pLp (.agg [_, _, _, _, _]) (rd2 (lm := m2) (off := 0) hc5 tA81 tZ81) (bk hk fun v6 hv6 hk => ?_)
  refine pCall (fun _ => f58_run hv6) (bk hk fun c7 hc7 hk => ?_)
  refine pXm hl3 hc7 tE35 tZ89 ?_
  refine pSm hO 0 hc7 tZ89 rfl v6 (.agg [_, _, _, _, _]) (fun G hO => pE (bn (gn (lrg ?_))))
  refine pM (.int _ _) ?_
  refine pBi ?_
  refine pA (.int _ _) (pE (gn ?_))
  cases hk; exact ⟨_, rfl, _, _, (List.length_set.trans hl3), hO, sh⟩
 ·refine lex (ge (ge (be (gn (have hk := lx hx1 hk; lsq (lrg (pM (.sl _ _ _) ?_)))))))
  refine pA (.sl _ _ _) (pE (gn (lrt ?_)))
  replace hk := Option.some.inj hk; subst hk; exact finZ hO (fz_made (xs := x3) hl3 hlk 0) (resT (.sl _ _ _) resN)
def f36_L1 (aA0 : List Bool) : ((List Bool) × Int) → Option (((List Bool) × Int) ⊕ (List Bool)) := fun s =>
 (bif decide (s.2 < (aA0.length : Int)) then ((getI aA0 s.2).bind fun c5 => ((getI s.1 s.2).bind fun c6 => some (.inl (s.1.set s.2.toNat c5, w64 (s.2 + (1:Int)))))) else ((some s.1).map Sum.inr))
def f36 (aA0 : List Bool) : Option (List Bool) :=
 ((makeB 1 (aA0.length : Int)).bind fun m1 => (loopO (f36_L1 aA0) (List.replicate m1 (false : Bool), (0:Int))))
theorem f36_run {aA0 : List Bool} {r : (List Bool)} {l1 : Nat} (hk : f36 aA0 = some r) (hlk : 0 < lk.length := by simp) : runL Try.prog hh 36 [litL l1 0 aA0] H lk = some (litL 0 0 r, H) := by
 refine run_start Try.func36 rfl Try.ntmps36 Try.results36 rfl rfl fun hO => ?_
 unfold f36 at hk
 refine lsq (lrg (pA (.tl 0 []) (pE (gn (lsq (lrg ?_))))))
 refine pM (.lit _ _ _) ?_
 refine pLen tS27 (bk hk fun m1 hm1 hk => ?_)
 refine pMk hO hm1 (false : Bool) tE27 tZ4 tB4 t04 (fun b2 G hO => ?_)
 refine pA (.sl _ _ _) (pE (gn (lsq (lsq (lrg ?_)))))
 refine pA (.int _ _) (pE (gn (lbl ?_)))
 refine wpL_loopO (F := f36_L1 aA0) (fun s S' => ∃ (J : Nat → V) (G : Heap), s.1.length = m1 ∧ Owns H G [.blk b2 (.cells 1 (flatL 0 s.1))] ∧ S' = ⟨hav [(0, litL l1 0 aA0), (3, .sl b2 0 m1), (4, iv s.2)] J, G⟩) hk ⟨_, _, List.length_replicate, hO, sh⟩ ?_
 rintro ⟨x3, x4⟩ _ y1 ⟨J, G, hl3, hO, rfl⟩ hk hx1
 refine lsq (lsq (lrg (pM (.int _ _) ?_)))
 refine pM (.lit _ _ _) ?_
 refine pLen tS27 ?_
 refine pBi (pE (gn (lck hk (fun hk => ?_) (fun hk => ?_))))
 ·refine lsk (gn (lsq (lbl (lrg (pM (.sl _ _ _) ?_)))))
  refine pM (.int _ _) ?_
  refine pM (.lit _ _ _) ?_
  refine pM (.int _ _) (bk hk fun c5 hc5 hk => ?_)
  refine pX hc5 tE27 tZ4 ?_
  refine pLp (.bool _) (rd1 (lm := 0) (off := 0) hc5 tA4) (bk hk fun c6 hc6 hk => ?_)
  refine pXm hl3 hc6 tE27 tZ4 ?_
  refine pSm hO 0 hc6 tZ4 rfl c5 (.bool _) (fun G hO => pE (bn (gn (lrg ?_))))
  refine pM (.int _ _) ?_
  refine pBi ?_
  refine pA (.int _ _) (pE (gn ?_))
  cases hk; exact ⟨_, rfl, _, _, (List.length_set.trans hl3), hO, sh⟩
 ·refine lex (ge (ge (be (gn (have hk := lx hx1 hk; lsq (lrg (pM (.sl _ _ _) ?_)))))))
  refine pA (.sl _ _ _) (pE (gn (lrt ?_)))
  replace hk := Option.some.inj hk; subst hk; exact finZ hO (fz_made (xs := x3) hl3 hlk 0) (resT (.sl _ _ _) resN)
def f35_L1 (aA0 : List (List Bool)) : ((List (List Bool)) × Int) → Option (((List (List Bool)) × Int) ⊕ (List (List Bool))) := fun s =>
 (bif decide (s.2 < (aA0.length : Int)) then ((getI aA0 s.2).bind fun c5 => ((f36 c5).bind fun v6 => ((getI s.1 s.2).bind fun c7 => some (.inl (s.1.set s.2.toNat v6, w64 (s.2 + (1:Int))))))) else ((some s.1).map Sum.inr))
def f35 (aA0 : List (List Bool)) : Option (List (List Bool)) :=
 ((makeB 24 (aA0.length : Int)).bind fun m1 => (loopO (f35_L1 aA0) (List.replicate m1 ([] : List Bool), (0:Int))))
theorem f35_run {aA0 : List (List Bool)} {r : (List (List Bool))} {l1 m2 : Nat} (hk : f35 aA0 = some r) (hlk : 0 < lk.length := by simp) : runL Try.prog hh 35 [litL l1 m2 aA0] H lk = some (litL 0 0 r, H) := by
 refine run_start Try.func35 rfl Try.ntmps35 Try.results35 rfl rfl fun hO => ?_
 unfold f35 at hk
 refine lsq (lrg (pA (.tl 0 []) (pE (gn (lsq (lrg ?_))))))
 refine pM (.lit _ _ _) ?_
 refine pLen tS24 (bk hk fun m1 hm1 hk => ?_)
 refine pMk hO hm1 ([] : List Bool) tE24 tZ27 tB27 t027 (fun b2 G hO => ?_)
 refine pA (.sl _ _ _) (pE (gn (lsq (lsq (lrg ?_)))))
 refine pA (.int _ _) (pE (gn (lbl ?_)))
 refine wpL_loopO (F := f35_L1 aA0) (fun s S' => ∃ (J : Nat → V) (G : Heap), s.1.length = m1 ∧ Owns H G [.blk b2 (.cells 1 (flatL 0 s.1))] ∧ S' = ⟨hav [(0, litL l1 m2 aA0), (3, .sl b2 0 m1), (4, iv s.2)] J, G⟩) hk ⟨_, _, List.length_replicate, hO, sh⟩ ?_
 rintro ⟨x3, x4⟩ _ y1 ⟨J, G, hl3, hO, rfl⟩ hk hx1
 refine lsq (lsq (lrg (pM (.int _ _) ?_)))
 refine pM (.lit _ _ _) ?_
 refine pLen tS24 ?_
 refine pBi (pE (gn (lck hk (fun hk => ?_) (fun hk => ?_))))
 ·refine lsk (gn (lsq (lbl (lrg (pM (.sl _ _ _) ?_)))))
  refine pM (.int _ _) ?_
  refine pM (.lit _ _ _) ?_
  refine pM (.int _ _) (bk hk fun c5 hc5 hk => ?_)
  refine pX hc5 tE24 tZ27 ?_
  refine pLp (.lit _ _ _) (rd1 (lm := m2) (off := 0) hc5 tA27) (bk hk fun v6 hv6 hk => ?_)
  refine pCall (fun _ => f36_run hv6) (bk hk fun c7 hc7 hk => ?_)
  refine pXm hl3 hc7 tE24 tZ27 ?_
  refine pSm hO 0 hc7 tZ27 rfl v6 (.lit _ _ _) (fun G hO => pE (bn (gn (lrg ?_))))
  refine pM (.int _ _) ?_
  refine pBi ?_
  refine pA (.int _ _) (pE (gn ?_))
  cases hk; exact ⟨_, rfl, _, _, (List.length_set.trans hl3), hO, sh⟩
 ·refine lex (ge (ge (be (gn (have hk := lx hx1 hk; lsq (lrg (pM (.sl _ _ _) ?_)))))))
  refine pA (.sl _ _ _) (pE (gn (lrt ?_)))
  replace hk := Option.some.inj hk; subst hk; exact finZ hO (fz_made (xs := x3) hl3 hlk 0) (resT (.sl _ _ _) resN)
def f10 (aA0 : Plan) : Option Plan :=
 ((f33 aA0.Switches).bind fun v4 => ((f34 aA0.Ways).bind fun v5 => ((f35 aA0.Bars).bind fun v6 => some ({ Sections := aA0.Sections, Switches := v4, Ways := v5, Bars := v6, Hold := aA0.Hold } : Plan))))
theorem f10_run {aA0 : Plan} {r : Plan} {l1 l2 m3 l4 m5 : Nat} (hk : f10 aA0 = some r) (hlk : 0 < lk.length := by simp) : runL Try.prog hh 10 [.agg (cPlan l1 0 l2 m3 l4 m5 aA0)] H lk = some (.agg (cPlan 0 0 0 0 0 0 r), H) := by
 refine run_start Try.func10 rfl Try.ntmps10 Try.results10 rfl rfl fun hO => ?_
 unfold f10 at hk
 refine lsq (lrg (pBox (cs := [_, _, _, _, _]) hO tZ26 (fun b1 G hO => pNew hO tZ37 t037 (fun b2 G hO => pE (gn (lsq (lrg (pNew hO tZ37 t037 (fun b3 G hO => pE (gn (lsq (lrg ?_))))))))))))
 refine pFL tF26_0 hO 2 (.int _ _) tA3 ?_
 refine pF tF37_0 ?_
 refine pSt (xs := [_]) hO 0 tZ3 rfl (fun G hO => pE (gn (lsq (lrg ?_))))
 refine pFL tF26_1 hO 2 (.lit _ _ _) tA22 (bk hk fun v4 hv4 hk => ?_)
 refine pCall (fun _ => f33_run hv4) ?_
 refine pF tF37_1 ?_
 refine pSt (xs := [_]) hO 0 tZ22 rfl (fun G hO => pE (gn (lsq (lrg ?_))))
 refine pFL tF26_2 hO 2 (.lit _ _ _) tA23 (bk hk fun v5 hv5 hk => ?_)
 refine pCall (fun _ => f34_run hv5) ?_
 refine pF tF37_2 ?_
 refine pSt (xs := [_]) hO 0 tZ35 rfl (fun G hO => pE (gn (lsq (lrg ?_))))
 refine pFL tF26_3 hO 2 (.lit _ _ _) tA24 (bk hk fun v6 hv6 hk => ?_)
 refine pCall (fun _ => f35_run hv6) ?_
 refine pF tF37_3 ?_
 refine pSt (xs := [_]) hO 0 tZ24 rfl (fun G hO => pE (gn (lsq (lrg ?_))))
 refine pFL tF26_4 hO 2 (.int _ _) tA3 ?_
 refine pF tF37_4 ?_
 refine pSt (xs := [_]) hO 0 tZ3 rfl (fun G hO => pE (gn (lsq (lrg ?_))))
 refine pLs hO 0 [_, _, _, _, _] tA37 tZ37 ?_
 refine pSt (xs := [_, _, _, _, _]) hO 1 tZ37 rfl (fun G hO => pE (gn (lrt ?_)))
 replace hk := Option.some.inj hk; subst hk; exact finZ hO (fz_agg (n := 2) (fz_c (fz_int _ _) (fz_c (fz_lit hlk v4) (fz_c (fz_lit hlk v5) (fz_c (fz_lit hlk v6) (fz_c (fz_int _ _) (fz_n))))))) (resS hO 1 [_, _, _, _, _] tA37 tZ37 resN)
def f59 (aA0 : Point) : Option Point :=
 some aA0
theorem f59_run {aA0 : Point} {r : Point} (hk : f59 aA0 = some r) (hlk : 0 < lk.length := by simp) : runL Try.prog hh 59 [.agg [iv aA0.Want, iv aA0.Lies]] H lk = some (.agg [iv r.Want, iv r.Lies], H) := by
 refine run_start Try.func59 rfl Try.ntmps59 Try.results59 rfl rfl fun hO => ?_
 unfold f59 at hk
 refine lsq (lrg (pBox (cs := [_, _]) hO tZ94 (fun b1 G hO => pNew hO tZ58 t058 (fun b2 G hO => pE (gn (lsq (lrg (pNew hO tZ58 t058 (fun b3 G hO => pE (gn (lsq (lrg ?_))))))))))))
 refine pFL tF94_0 hO 2 (.int _ _) tA3 ?_
 refine pF tF58_0 ?_
 refine pSt (xs := [_]) hO 0 tZ3 rfl (fun G hO => pE (gn (lsq (lrg ?_))))
 refine pFL tF94_1 hO 2 (.int _ _) tA3 ?_
 refine pF tF58_1 ?_
 refine pSt (xs := [_]) hO 0 tZ3 rfl (fun G hO => pE (gn (lsq (lrg ?_))))
 refine pLs hO 0 [_, _] tA58 tZ58 ?_
 refine pSt (xs := [_, _]) hO 1 tZ58 rfl (fun G hO => pE (gn (lrt ?_)))
 replace hk := Option.some.inj hk; subst hk; exact finZ hO (fz_agg (n := 2) (fz_c (fz_int _ _) (fz_c (fz_int _ _) (fz_n)))) (resS hO 1 [_, _] tA58 tZ58 resN)
def f37_L1 (aA0 : List Point) : ((List Point) × Int) → Option (((List Point) × Int) ⊕ (List Point)) := fun s =>
 (bif decide (s.2 < (aA0.length : Int)) then ((getI aA0 s.2).bind fun c5 => ((f59 c5).bind fun v6 => ((getI s.1 s.2).bind fun c7 => some (.inl (s.1.set s.2.toNat v6, w64 (s.2 + (1:Int))))))) else ((some s.1).map Sum.inr))
def f37 (aA0 : List Point) : Option (List Point) :=
 ((makeB 16 (aA0.length : Int)).bind fun m1 => (loopO (f37_L1 aA0) (List.replicate m1 (⟨0, 0⟩ : Point), (0:Int))))
theorem f37_run {aA0 : List Point} {r : (List Point)} {l1 : Nat} (hk : f37 aA0 = some r) (hlk : 0 < lk.length := by simp) : runL Try.prog hh 37 [litL l1 0 aA0] H lk = some (litL 0 0 r, H) := by
 refine run_start Try.func37 rfl Try.ntmps37 Try.results37 rfl rfl fun hO => ?_
 unfold f37 at hk
 refine lsq (lrg (pA (.tl 0 []) (pE (gn (lsq (lrg ?_))))))
 refine pM (.lit _ _ _) ?_
 refine pLen tS28 (bk hk fun m1 hm1 hk => ?_)
 refine pMk hO hm1 (⟨0, 0⟩ : Point) tE39 tZ58 tB58 t058 (fun b2 G hO => ?_)
 refine pA (.sl _ _ _) (pE (gn (lsq (lsq (lrg ?_)))))
 refine pA (.int _ _) (pE (gn (lbl ?_)))
 refine wpL_loopO (F := f37_L1 aA0) (fun s S' => ∃ (J : Nat → V) (G : Heap), s.1.length = m1 ∧ Owns H G [.blk b2 (.cells 2 (flatL 0 s.1))] ∧ S' = ⟨hav [(0, litL l1 0 aA0), (3, .sl b2 0 m1), (4, iv s.2)] J, G⟩) hk ⟨_, _, List.length_replicate, hO, sh⟩ ?_
 rintro ⟨x3, x4⟩ _ y1 ⟨J, G, hl3, hO, rfl⟩ hk hx1
 refine lsq (lsq (lrg (pM (.int _ _) ?_)))
 refine pM (.lit _ _ _) ?_
 refine pLen tS28 ?_
 refine pBi (pE (gn (lck hk (fun hk => ?_) (fun hk => ?_))))
 ·refine lsk (gn (lsq (lbl (lrg (pM (.sl _ _ _) ?_)))))
  refine pM (.int _ _) ?_
  refine pM (.lit _ _ _) ?_
  refine pM (.int _ _) (bk hk fun c5 hc5 hk => ?_)
  refine pX hc5 tE28 tZ94 ?_
  refine pLp (.agg [_, _]) (rd2 (lm := 0) (off := 0) hc5 tA94 tZ94) (bk hk fun v6 hv6 hk => ?_)
  refine pCall (fun _ => f59_run hv6) (bk hk fun c7 hc7 hk => ?_)
  refine pXm hl3 hc7 tE39 tZ58 ?_
  refine pSm hO 0 hc7 tZ58 rfl v6 (.agg [_, _]) (fun G hO => pE (bn (gn (lrg ?_))))
  refine pM (.int _ _) ?_
  refine pBi ?_
  refine pA (.int _ _) (pE (gn ?_))
  cases hk; exact ⟨_, rfl, _, _, (List.length_set.trans hl3), hO, sh⟩
 ·refine lex (ge (ge (be (gn (have hk := lx hx1 hk; lsq (lrg (pM (.sl _ _ _) ?_)))))))
  refine pA (.sl _ _ _) (pE (gn (lrt ?_)))
  replace hk := Option.some.inj hk; subst hk; exact finZ hO (fz_made (xs := x3) hl3 hlk 0) (resT (.sl _ _ _) resN)
def f60 (aA0 : Held) : Option Held :=
 ((f36 aA0.Been).bind fun v4 => some ({ State := aA0.State, Gone := aA0.Gone, Been := v4, Shown := aA0.Shown, Timer := aA0.Timer } : Held))
theorem f60_run {aA0 : Held} {r : Held} {l1 : Nat} (hk : f60 aA0 = some r) (hlk : 0 < lk.length := by simp) : runL Try.prog hh 60 [.agg [iv aA0.State, iv aA0.Gone, litL l1 0 aA0.Been, .bool aA0.Shown, iv aA0.Timer]] H lk = some (.agg [iv r.State, iv r.Gone, litL 0 0 r.Been, .bool r.Shown, iv r.Timer], H) := by
 refine run_start Try.func60 rfl Try.ntmps60 Try.results60 rfl rfl fun hO => ?_
 unfold f60 at hk
 refine lsq (lrg (pBox (cs := [_, _, _, _, _]) hO tZ83 (fun b1 G hO => pNew hO tZ61 t061 (fun b2 G hO => pE (gn (lsq (lrg (pNew hO tZ61 t061 (fun b3 G hO => pE (gn (lsq (lrg ?_))))))))))))
 refine pFL tF83_0 hO 2 (.int _ _) tA3 ?_
 refine pF tF61_0 ?_
 refine pSt (xs := [_]) hO 0 tZ3 rfl (fun G hO => pE (gn (lsq (lrg ?_))))
 refine pFL tF83_1 hO 2 (.int _ _) tA3 ?_
 refine pF tF61_1 ?_
 refine pSt (xs := [_]) hO 0 tZ3 rfl (fun G hO => pE (gn (lsq (lrg ?_))))
 refine pFL tF83_2 hO 2 (.lit _ _ _) tA27 (bk hk fun v4 hv4 hk => ?_)
 refine pCall (fun _ => f36_run hv4) ?_
 refine pF tF61_2 ?_
 refine pSt (xs := [_]) hO 0 tZ27 rfl (fun G hO => pE (gn (lsq (lrg ?_))))
 refine pFL tF83_3 hO 2 (.bool _) tA4 ?_
 refine pF tF61_3 ?_
 refine pSt (xs := [_]) hO 0 tZ4 rfl (fun G hO => pE (gn (lsq (lrg ?_))))
 refine pFL tF83_4 hO 2 (.int _ _) tA3 ?_
 refine pF tF61_4 ?_
 refine pSt (xs := [_]) hO 0 tZ3 rfl (fun G hO => pE (gn (lsq (lrg ?_))))
 refine pLs hO 0 [_, _, _, _, _] tA61 tZ61 ?_
 refine pSt (xs := [_, _, _, _, _]) hO 1 tZ61 rfl (fun G hO => pE (gn (lrt ?_)))
 replace hk := Option.some.inj hk; subst hk; exact finZ hO (fz_agg (n := 2) (fz_c (fz_int _ _) (fz_c (fz_int _ _) (fz_c (fz_lit hlk v4) (fz_c (fz_bool _) (fz_c (fz_int _ _) (fz_n))))))) (resS hO 1 [_, _, _, _, _] tA61 tZ61 resN)
def f38_L1 (aA0 : List Held) : ((List Held) × Int) → Option (((List Held) × Int) ⊕ (List Held)) := fun s =>
 (bif decide (s.2 < (aA0.length : Int)) then ((getI aA0 s.2).bind fun c5 => ((f60 c5).bind fun v6 => ((getI s.1 s.2).bind fun c7 => some (.inl (s.1.set s.2.toNat v6, w64 (s.2 + (1:Int))))))) else ((some s.1).map Sum.inr))
def f38 (aA0 : List Held) : Option (List Held) :=
 ((makeB 56 (aA0.length : Int)).bind fun m1 => (loopO (f38_L1 aA0) (List.replicate m1 (⟨0, 0, [], false, 0⟩ : Held), (0:Int))))
theorem f38_run {aA0 : List Held} {r : (List Held)} {l1 m2 : Nat} (hk : f38 aA0 = some r) (hlk : 0 < lk.length := by simp) : runL Try.prog hh 38 [litL l1 m2 aA0] H lk = some (litL 0 0 r, H) := by
 refine run_start Try.func38 rfl Try.ntmps38 Try.results38 rfl rfl fun hO => ?_
 unfold f38 at hk
 refine lsq (lrg (pA (.tl 0 []) (pE (gn (lsq (lrg ?_))))))
 refine pM (.lit _ _ _) ?_
 refine pLen tS29 (bk hk fun m1 hm1 hk => ?_)
 refine pMk hO hm1 (⟨0, 0, [], false, 0⟩ : Held) tE40 tZ61 tB61 t061 (fun b2 G hO => ?_)
 refine pA (.sl _ _ _) (pE (gn (lsq (lsq (lrg ?_)))))
 refine pA (.int _ _) (pE (gn (lbl ?_)))
 refine wpL_loopO (F := f38_L1 aA0) (fun s S' => ∃ (J : Nat → V) (G : Heap), s.1.length = m1 ∧ Owns H G [.blk b2 (.cells 5 (flatL 0 s.1))] ∧ S' = ⟨hav [(0, litL l1 m2 aA0), (3, .sl b2 0 m1), (4, iv s.2)] J, G⟩) hk ⟨_, _, List.length_replicate, hO, sh⟩ ?_
 rintro ⟨x3, x4⟩ _ y1 ⟨J, G, hl3, hO, rfl⟩ hk hx1
 refine lsq (lsq (lrg (pM (.int _ _) ?_)))
 refine pM (.lit _ _ _) ?_
 refine pLen tS29 ?_
 refine pBi (pE (gn (lck hk (fun hk => ?_) (fun hk => ?_))))
 ·refine lsk (gn (lsq (lbl (lrg (pM (.sl _ _ _) ?_)))))
  refine pM (.int _ _) ?_
  refine pM (.lit _ _ _) ?_
  refine pM (.int _ _) (bk hk fun c5 hc5 hk => ?_)
  refine pX hc5 tE29 tZ83 ?_
  refine pLp (.agg [_, _, _, _, _]) (rd2 (lm := m2) (off := 0) hc5 tA83 tZ83) (bk hk fun v6 hv6 hk => ?_)
  refine pCall (fun _ => f60_run hv6) (bk hk fun c7 hc7 hk => ?_)
  refine pXm hl3 hc7 tE40 tZ61 ?_
  refine pSm hO 0 hc7 tZ61 rfl v6 (.agg [_, _, _, _, _]) (fun G hO => pE (bn (gn (lrg ?_))))
  refine pM (.int _ _) ?_
  refine pBi ?_
  refine pA (.int _ _) (pE (gn ?_))
  cases hk; exact ⟨_, rfl, _, _, (List.length_set.trans hl3), hO, sh⟩
 ·refine lex (ge (ge (be (gn (have hk := lx hx1 hk; lsq (lrg (pM (.sl _ _ _) ?_)))))))
  refine pA (.sl _ _ _) (pE (gn (lrt ?_)))
  replace hk := Option.some.inj hk; subst hk; exact finZ hO (fz_made (xs := x3) hl3 hlk 0) (resT (.sl _ _ _) resN)
def f11 (aA0 : Frame) : Option Frame :=
 ((f36 aA0.Occ).bind fun v4 => ((f37 aA0.Points).bind fun v5 => ((f38 aA0.Ways).bind fun v6 => some ({ Ok := aA0.Ok, Occ := v4, Points := v5, Ways := v6 } : Frame))))
theorem f11_run {aA0 : Frame} {r : Frame} {l1 l2 l3 m4 : Nat} (hk : f11 aA0 = some r) (hlk : 0 < lk.length := by simp) : runL Try.prog hh 11 [.agg (cFrame l1 0 l2 0 l3 m4 aA0)] H lk = some (.agg (cFrame 0 0 0 0 0 0 r), H) := by
 refine run_start Try.func11 rfl Try.ntmps11 Try.results11 rfl rfl fun hO => ?_
 unfold f11 at hk
 refine lsq (lrg (pBox (cs := [_, _, _, _]) hO tZ31 (fun b1 G hO => pNew hO tZ42 t042 (fun b2 G hO => pE (gn (lsq (lrg (pNew hO tZ42 t042 (fun b3 G hO => pE (gn (lsq (lrg ?_))))))))))))
 refine pFL tF31_0 hO 2 (.bool _) tA4 ?_
 refine pF tF42_0 ?_
 refine pSt (xs := [_]) hO 0 tZ4 rfl (fun G hO => pE (gn (lsq (lrg ?_))))
 refine pFL tF31_1 hO 2 (.lit _ _ _) tA27 (bk hk fun v4 hv4 hk => ?_)
 refine pCall (fun _ => f36_run hv4) ?_
 refine pF tF42_1 ?_
 refine pSt (xs := [_]) hO 0 tZ27 rfl (fun G hO => pE (gn (lsq (lrg ?_))))
 refine pFL tF31_2 hO 2 (.lit _ _ _) tA28 (bk hk fun v5 hv5 hk => ?_)
 refine pCall (fun _ => f37_run hv5) ?_
 refine pF tF42_2 ?_
 refine pSt (xs := [_]) hO 0 tZ39 rfl (fun G hO => pE (gn (lsq (lrg ?_))))
 refine pFL tF31_3 hO 2 (.lit _ _ _) tA29 (bk hk fun v6 hv6 hk => ?_)
 refine pCall (fun _ => f38_run hv6) ?_
 refine pF tF42_3 ?_
 refine pSt (xs := [_]) hO 0 tZ40 rfl (fun G hO => pE (gn (lsq (lrg ?_))))
 refine pLs hO 0 [_, _, _, _] tA42 tZ42 ?_
 refine pSt (xs := [_, _, _, _]) hO 1 tZ42 rfl (fun G hO => pE (gn (lrt ?_)))
 replace hk := Option.some.inj hk; subst hk; exact finZ hO (fz_agg (n := 2) (fz_c (fz_bool _) (fz_c (fz_lit hlk v4) (fz_c (fz_lit hlk v5) (fz_c (fz_lit hlk v6) (fz_n)))))) (resS hO 1 [_, _, _, _] tA42 tZ42 resN)
def f28 (aX0 : Int) (aA1 : Int) (aB2 : Int) : Option Bool :=
 some (decide (aX0 ≥ aA1) && decide (aX0 ≤ aB2))
theorem f28_run {aX0 : Int} {aA1 : Int} {aB2 : Int} {r : Bool} (hk : f28 aX0 aA1 aB2 = some r) (hlk : 0 < lk.length := by simp) : runL Try.prog hh 28 [iv aX0, iv aA1, iv aB2] H lk = some (.bool r, H) := by
 refine run_start Try.func28 rfl Try.ntmps28 Try.results28 rfl rfl fun hO => ?_
 unfold f28 at hk
 refine lsq (lrg (pA (.bool _) (pE (gn (lsq (lrg ?_))))))
 refine pM (.int _ _) ?_
 refine pM (.int _ _) ?_
 refine pBi ?_
 refine pM (.bool _) ?_
 refine wpR_mid (l1 := [_, _, _, _]) (fun S' => ∃ J, S' = ⟨hav [(14, .bool (decide (aX0 ≥ aA1) && decide (aX0 ≤ aB2)))] J, H⟩) ?_ ?_
 ·refine bc (b := decide (aX0 ≥ aA1)) (fun hg => ?_) (fun hg => ?_)
  ·refine pGy hg (pM (.int _ _) (pGy hg ?_))
   refine pM (.int _ _) (pGy hg ?_)
   refine pBi ?_
   refine pPt hg (.bool _) ?_
   exact pE ⟨_, St.hav _ ⟨by rw [hg]; rfl, trivial⟩⟩
  ·refine pGn hg (pGn hg (pGn hg (pPf hg (.bool _) ?_)))
   exact pE ⟨_, St.hav _ ⟨by rw [hg]; rfl, trivial⟩⟩
 ·rintro _ ⟨J, rfl⟩
  refine pA (.bool _) (pE (gn (lrt ?_)))
  cases hk; exact fin0 hO
def f95_L2 (aList0 : List Int) (x1 : Int) (c2 : Int) : Int → Option (Int ⊕ (Int ⊕ Bool)) := fun s =>
 (bif decide (s < x1) then ((getI aList0 s).bind fun c5 => (bif (c5 == c2) then (((some false).map Sum.inr).map Sum.inr) else some (.inl (w64 (s + (1:Int)))))) else ((some (.inl (w64 (x1 + (1:Int))))).map Sum.inr))
def f95_L1 (aList0 : List Int) (aN1 : Int) : Int → Option (Int ⊕ Bool) := fun s =>
 (bif decide (s < (aList0.length : Int)) then ((getI aList0 s).bind fun c2 => ((f28 c2 (0:Int) (w64 (aN1 - (1:Int)))).bind fun v3 => (bif !v3 then ((some false).map Sum.inr) else (loopO (f95_L2 aList0 s c2) ((0:Int)))))) else ((some (decide ((aList0.length : Int) ≤ (30:Int)))).map Sum.inr))
def f95 (aList0 : List Int) (aN1 : Int) : Option Bool :=
 (loopO (f95_L1 aList0 aN1) ((0:Int)))
theorem f95_run {aList0 : List Int} {aN1 : Int} {r : Bool} {l1 : Nat} (hk : f95 aList0 aN1 = some r) (hlk : 0 < lk.length := by simp) : runL Try.prog hh 95 [litL l1 0 aList0, iv aN1] H lk = some (.bool r, H) := by
 refine run_start Try.func95 rfl Try.ntmps95 Try.results95 rfl rfl fun hO => ?_
 unfold f95 at hk
 refine lsq (lrg (pA (.bool _) (pE (gn (lsq (lsq (lrg ?_)))))))
 refine pM (.lit _ _ _) ?_
 refine pLen tS22 ?_
 refine pM (.int _ _) (pE (gn (lbl ?_)))
 refine wpL_loopO (F := f95_L1 aList0 aN1) (fun s S' => ∃ (J : Nat → V) (G : Heap), Owns H G [] ∧ S' = ⟨hav [(0, litL l1 0 aList0), (1, iv aN1), (8, litL l1 0 aList0), (9, iv (aList0.length : Int)), (10, iv s)] J, G⟩) hk ⟨_, _, hO, sh⟩ ?_
 rintro x1 _ y1 ⟨J, G, hO, rfl⟩ hk hx1
 refine lsq (lrg (pBi (pE (gn (lsq (lck hk (fun hk => ?_) (fun hk => ?_)))))))
 ·refine lsk (gn (lsq (lbl (lsq (lrg (pM (.int _ _) (bk hk fun c2 hc2 hk => ?_)))))))
  refine pX hc2 tE22 tZ3 ?_
  refine pLp (.int _ _) (rd1 (lm := 0) (off := 0) hc2 tA3) ?_
  refine pA (.int _ _) ?_
  refine pA (.int _ _) (pE (gn (lsq (lsq (lrg ?_)))))
  refine pM (.int _ _) ?_
  refine pM (.int _ _) ?_
  refine pBi (bk hk fun v3 hv3 hk => ?_)
  refine pCall (fun _ => f28_run hv3) ?_
  refine pU (pE (gn (lck hk (fun hk => ?_) (fun hk => ?_))))
  ·refine lsq (lrg (pA (.bool _) (pE (gn (lrt (gr (br (gr (gr (br (gr (have hk := lx hx1 hk; ?_))))))))))))
   cases hk; exact fin0 hO
  ·refine lsk (gn (lsq (lrg (pA (.int _ _) (pE (gn (lbl ?_)))))))
   refine wpL_loopO (F := f95_L2 aList0 x1 c2) (fun s S' => ∃ (J : Nat → V) (G : Heap), Owns H G [] ∧ S' = ⟨hav [(0, litL l1 0 aList0), (1, iv aN1), (5, iv x1), (6, iv c2), (7, iv s), (8, litL l1 0 aList0), (9, iv (aList0.length : Int)), (10, iv x1)] J, G⟩) hk ⟨_, _, hO, sh⟩ ?_
   rintro x4 _ y2 ⟨J, G, hO, rfl⟩ hk hx2
   refine lsq (lsq (lrg (pM (.int _ _) ?_)))
   refine pM (.int _ _) ?_
   refine pBi (pE (gn (lck hk (fun hk => ?_) (fun hk => ?_))))
   ·refine lsk (gn (lsq (lbl (lsq (lrg (pM (.lit _ _ _) ?_))))))
    refine pM (.int _ _) (bk hk fun c5 hc5 hk => ?_)
    refine pX hc5 tE22 tZ3 ?_
    refine pLp (.int _ _) (rd1 (lm := 0) (off := 0) hc5 tA3) ?_
    refine pM (.int _ _) ?_
    refine pBi (pE (gn (lck hk (fun hk => ?_) (fun hk => ?_))))
    ·refine lsq (lrg (pA (.bool _) (pE (gn (lrt (br (gr (gr (br (br (gr (gr (br (gr (have hk := lx hx2 hk; have hk := lx hx1 hk; ?_)))))))))))))))
     cases hk; exact fin0 hO
    ·refine lsk (bn (gn (lrg (pM (.int _ _) ?_))))
     refine pBi ?_
     refine pA (.int _ _) (pE (gn ?_))
     cases hk; exact ⟨_, rfl, _, _, hO, sh⟩
   ·refine lex (ge (ge (be (bn (gn (have hk := lx hx2 hk; lrg (pBi ?_)))))))
    refine pM (.int _ _) (pE (gn ?_))
    cases hk; exact ⟨_, rfl, _, _, hO, sh⟩
 ·refine lex (ge (ge (be (gn (have hk := lx hx1 hk; lsq (lrg (pM (.lit _ _ _) ?_)))))))
  refine pLen tS22 ?_
  refine pBi ?_
  refine pA (.bool _) (pE (gn (lrt ?_)))
  cases hk; exact fin0 hO
def f96_L2 (aList1 : List Turn) (x2 : Int) (c3 : Turn) : Int → Option (Int ⊕ (Int ⊕ Bool)) := fun s =>
 (bif decide (s < x2) then ((getI aList1 s).bind fun c9 => (bif (c9.Switch == c3.Switch) then (((some false).map Sum.inr).map Sum.inr) else some (.inl (w64 (s + (1:Int)))))) else ((some (.inl (w64 (x2 + (1:Int))))).map Sum.inr))
def f96_L1 (aP0 : Plan) (aList1 : List Turn) : Int → Option (Int ⊕ Bool) := fun s =>
 (bif decide (s < (aList1.length : Int)) then ((getI aList1 s).bind fun c3 => ((f28 c3.Switch (0:Int) (w64 ((aP0.Switches.length : Int) - (1:Int)))).bind fun v5 => ((bif !v5 then some true else ((f28 c3.Lie (1:Int) (2:Int)).bind fun v7 => some (!v7))).bind fun t6 => (bif t6 then ((some false).map Sum.inr) else (loopO (f96_L2 aList1 s c3) ((0:Int))))))) else ((some (decide ((aList1.length : Int) ≤ (30:Int)))).map Sum.inr))
def f96 (aP0 : Plan) (aList1 : List Turn) : Option Bool :=
 (loopO (f96_L1 aP0 aList1) ((0:Int)))
theorem f96_run {aP0 : Plan} {aList1 : List Turn} {r : Bool} {l1 l2 m3 l4 m5 l6 : Nat} (hk : f96 aP0 aList1 = some r) (hlk : 0 < lk.length := by simp) : runL Try.prog hh 96 [.agg (cPlan l1 0 l2 m3 l4 m5 aP0), litL l6 0 aList1] H lk = some (.bool r, H) := by
 refine run_start Try.func96 rfl Try.ntmps96 Try.results96 rfl rfl fun hO => ?_
 unfold f96 at hk
 refine lsq (lrg (pBox (cs := [_, _, _, _, _]) hO tZ37 (fun b1 G hO => ?_)))
 refine pA (.bool _) (pE (gn (lsq (lsq (lrg ?_)))))
 refine pM (.lit _ _ _) ?_
 refine pLen tS87 ?_
 refine pM (.int _ _) (pE (gn (lbl ?_)))
 refine wpL_loopO (F := f96_L1 aP0 aList1) (fun s S' => ∃ (J : Nat → V) (G : Heap), Owns H G [.blk b1 (.cells 5 (cPlan l1 0 l2 m3 l4 m5 aP0))] ∧ S' = ⟨hav [(1, litL l6 0 aList1), (2, .ptr b1 0), (8, litL l6 0 aList1), (9, iv (aList1.length : Int)), (10, iv s)] J, G⟩) hk ⟨_, _, hO, sh⟩ ?_
 rintro x2 _ y1 ⟨J, G, hO, rfl⟩ hk hx1
 refine lsq (lrg (pBi (pE (gn (lsq (lck hk (fun hk => ?_) (fun hk => ?_)))))))
 ·refine lsk (gn (lsq (lbl (lsq (lrg (pM (.int _ _) (bk hk fun c3 hc3 hk => ?_)))))))
  refine pX hc3 tE87 tZ102 ?_
  refine pLp (.agg [_, _]) (rd2 (lm := 0) (off := 0) hc3 tA102 tZ102) (pNew hO tZ102 t0102 (fun b4 G hO => ?_))
  refine pA (.int _ _) ?_
  refine pSt (xs := [_, _]) hO 0 tZ102 rfl (fun G hO => pE (gn (lsq (lsq (lrg ?_)))))
  refine pFL tF102_0 hO 0 (.int _ _) tA3 ?_
  refine pFL tF37_1 hO 1 (.lit _ _ _) tA22 ?_
  refine pLen tS22 ?_
  refine pBi (bk hk fun v5 hv5 hk => ?_)
  refine pCall (fun _ => f28_run hv5) ?_
  refine pU ?_
  refine pM (.bool _) (bk hk fun t6 ht hk => ?_)
  refine wpR_mid (l1 := [_, _, _, _, _]) (fun S' => ∃ J, S' = ⟨hav [(1, litL l6 0 aList1), (2, .ptr b1 0), (5, iv x2), (6, .ptr b4 0), (8, litL l6 0 aList1), (9, iv (aList1.length : Int)), (10, iv x2), (28, .bool t6)] J, G⟩) ?_ ?_
  ·refine bc (b := !v5) (fun hg => ?_) (fun hg => ?_)
   ·replace hk := ct hg ht
    refine pGn hg (pGn hg (pGn hg (pGn hg (pPt hg (.bool _) ?_))))
    cases hk; exact pE ⟨_, sh⟩
   ·replace hk := cf hg ht
    refine pGy hg (pF tF102_1 (pGy hg ?_))
    refine pLo hO 0 (.int _ _) tA3 (pGy hg (bk hk fun v7 hv7 hk => ?_))
    refine pCall (fun _ => f28_run hv7) (pGy hg ?_)
    refine pU ?_
    refine pPf hg (.bool _) ?_
    cases hk; exact pE ⟨_, sh⟩
  ·rintro _ ⟨J, rfl⟩
   refine pE (gn (lck hk (fun hk => ?_) (fun hk => ?_)))
   ·refine lsq (lrg (pA (.bool _) (pE (gn (lrt (gr (br (gr (gr (br (gr (have hk := lx hx1 hk; ?_))))))))))))
    cases hk; exact fin0 hO
   ·refine lsk (gn (lsq (lrg (pA (.int _ _) (pE (gn (lbl ?_)))))))
    refine wpL_loopO (F := f96_L2 aList1 x2 c3) (fun s S' => ∃ (J : Nat → V) (G : Heap), Owns H G [.blk b4 (.cells 2 [iv c3.Switch, iv c3.Lie]), .blk b1 (.cells 5 (cPlan l1 0 l2 m3 l4 m5 aP0))] ∧ S' = ⟨hav [(1, litL l6 0 aList1), (2, .ptr b1 0), (5, iv x2), (6, .ptr b4 0), (7, iv s), (8, litL l6 0 aList1), (9, iv (aList1.length : Int)), (10, iv x2)] J, G⟩) hk ⟨_, _, hO, sh⟩ ?_
    rintro x8 _ y2 ⟨J, G, hO, rfl⟩ hk hx2
    refine lsq (lsq (lrg (pM (.int _ _) ?_)))
    refine pM (.int _ _) ?_
    refine pBi (pE (gn (lck hk (fun hk => ?_) (fun hk => ?_))))
    ·refine lsk (gn (lsq (lbl (lsq (wpL_drw [(0, true), (1, true), (2, true), (3, true), (4, true), (5, true), (6, true), (7, false)] [_, _, _, _, _, _, _, _] (by decide +kernel) (by rfl) ?_)))))
     refine pM (.lit _ _ _) ?_
     refine pM (.int _ _) (bk hk fun c9 hc9 hk => ?_)
     refine pX hc9 tE87 tZ102 ?_
     refine pF tF102_0 ?_
     refine pLp (.int _ _) (rd1 (lm := 0) (off := 0) hc9 tA3) ?_
     refine pFL tF102_0 hO 0 (.int _ _) tA3 ?_
     refine pBi (pE (gn (lck hk (fun hk => ?_) (fun hk => ?_))))
     ·refine lsq (lrg (pA (.bool _) (pE (gn (lrt (br (gr (gr (br (br (gr (gr (br (gr (have hk := lx hx2 hk; have hk := lx hx1 hk; ?_)))))))))))))))
      cases hk; exact fin0 hO
     ·refine lsk (bn (gn (lrg (pM (.int _ _) ?_))))
      refine pBi ?_
      refine pA (.int _ _) (pE (gn ?_))
      cases hk; exact ⟨_, rfl, _, _, hO, sh⟩
    ·refine lex (ge (ge (be (bn (gn (have hk := lx hx2 hk; lrg (pBi ?_)))))))
     refine pM (.int _ _) (pE (gn ?_))
     cases hk; exact ⟨_, rfl, _, _, (pk hO [1]), sh⟩
 ·refine lex (ge (ge (be (gn (have hk := lx hx1 hk; lsq (lrg (pM (.lit _ _ _) ?_)))))))
  refine pLen tS87 ?_
  refine pBi ?_
  refine pA (.bool _) (pE (gn (lrt ?_)))
  cases hk; exact fin0 hO
def f76_L2 (aB1 : List Int) (x1 : Int) (c2 : Int) : Int → Option (Int ⊕ (Int ⊕ Bool)) := fun s =>
 (bif decide (s < (aB1.length : Int)) then ((getI aB1 s).bind fun c4 => (bif (c2 == c4) then (((some true).map Sum.inr).map Sum.inr) else some (.inl (w64 (s + (1:Int)))))) else ((some (.inl (w64 (x1 + (1:Int))))).map Sum.inr))
def f76_L1 (aA0 : List Int) (aB1 : List Int) : Int → Option (Int ⊕ Bool) := fun s =>
 (bif decide (s < (aA0.length : Int)) then ((getI aA0 s).bind fun c2 => (loopO (f76_L2 aB1 s c2) ((0:Int)))) else ((some false).map Sum.inr))
def f76 (aA0 : List Int) (aB1 : List Int) : Option Bool :=
 (loopO (f76_L1 aA0 aB1) ((0:Int)))
theorem f76_run {aA0 : List Int} {aB1 : List Int} {r : Bool} {l1 l2 : Nat} (hk : f76 aA0 aB1 = some r) (hlk : 0 < lk.length := by simp) : runL Try.prog hh 76 [litL l1 0 aA0, litL l2 0 aB1] H lk = some (.bool r, H) := by
 refine run_start Try.func76 rfl Try.ntmps76 Try.results76 rfl rfl fun hO => ?_
 unfold f76 at hk
 refine lsq (lrg (pA (.bool _) (pE (gn (lsq (lsq (lrg ?_)))))))
 refine pM (.lit _ _ _) ?_
 refine pLen tS22 ?_
 refine pM (.int _ _) (pE (gn (lbl ?_)))
 refine wpL_loopO (F := f76_L1 aA0 aB1) (fun s S' => ∃ (J : Nat → V) (G : Heap), Owns H G [] ∧ S' = ⟨hav [(1, litL l2 0 aB1), (9, litL l1 0 aA0), (10, iv (aA0.length : Int)), (11, iv s)] J, G⟩) hk ⟨_, _, hO, sh⟩ ?_
 rintro x1 _ y1 ⟨J, G, hO, rfl⟩ hk hx1
 refine lsq (lrg (pBi (pE (gn (lsq (lck hk (fun hk => ?_) (fun hk => ?_)))))))
 ·refine lsk (gn (lsq (lbl (lsq (lrg (bk hk fun c2 hc2 hk => pX hc2 tE22 tZ3 ?_))))))
  refine pLp (.int _ _) (rd1 (lm := 0) (off := 0) hc2 tA3) ?_
  refine pA (.int _ _) (pE (gn (lsq (lrg ?_))))
  refine pM (.lit _ _ _) ?_
  refine pLen tS22 ?_
  refine pM (.int _ _) (pE (gn (lbl ?_)))
  refine wpL_loopO (F := f76_L2 aB1 x1 c2) (fun s S' => ∃ (J : Nat → V) (G : Heap), Owns H G [] ∧ S' = ⟨hav [(1, litL l2 0 aB1), (6, iv c2), (9, litL l1 0 aA0), (10, iv (aA0.length : Int)), (11, iv x1), (15, litL l2 0 aB1), (16, iv (aB1.length : Int)), (17, iv s)] J, G⟩) hk ⟨_, _, hO, sh⟩ ?_
  rintro x3 _ y2 ⟨J, G, hO, rfl⟩ hk hx2
  refine lsq (lrg (pBi (pE (gn (lsq (lck hk (fun hk => ?_) (fun hk => ?_)))))))
  ·refine lsk (gn (lsq (lbl (lsq (lrg (bk hk fun c4 hc4 hk => pX hc4 tE22 tZ3 ?_))))))
   refine pLp (.int _ _) (rd1 (lm := 0) (off := 0) hc4 tA3) ?_
   refine pA (.int _ _) (pE (gn (lsq (lrg ?_))))
   refine pM (.int _ _) ?_
   refine pM (.int _ _) ?_
   refine pBi (pE (gn (lck hk (fun hk => ?_) (fun hk => ?_))))
   ·refine lsq (lrg (pA (.bool _) (pE (gn (lrt (br (gr (gr (br (br (gr (gr (br (gr (have hk := lx hx2 hk; have hk := lx hx1 hk; ?_)))))))))))))))
    cases hk; exact fin0 hO
   ·refine lsk (bn (gn (lrg (pBi ?_))))
    refine pM (.int _ _) (pE (gn ?_))
    cases hk; exact ⟨_, rfl, _, _, hO, sh⟩
  ·refine lex (ge (ge (be (bn (gn (have hk := lx hx2 hk; lrg (pBi ?_)))))))
   refine pM (.int _ _) (pE (gn ?_))
   cases hk; exact ⟨_, rfl, _, _, hO, sh⟩
 ·refine lex (ge (ge (be (gn (have hk := lx hx1 hk; lsq (lrg (pA (.bool _) (pE (gn (lrt ?_))))))))))
  cases hk; exact fin0 hO
def f75_L2 (aP0 : Plan) (aW1 : Way) (x13 : Int) (c14 : Turn) : Int → Option (Int ⊕ (Int ⊕ Bool)) := fun s =>
 (bif decide (s < (aW1.Flanks.length : Int)) then ((getI aW1.Flanks s).bind fun c17 => (bif (c14.Switch == c17.Switch) then (((some false).map Sum.inr).map Sum.inr) else some (.inl (w64 (s + (1:Int)))))) else (((getI aP0.Switches c14.Switch).bind fun c19 => ((f76 ([c19] : List Int) aW1.Sections).bind fun v20 => (bif !v20 then ((some false).map Sum.inr) else some (.inl (w64 (x13 + (1:Int))))))).map Sum.inr))
def f75_L1 (aP0 : Plan) (aW1 : Way) : Int → Option (Int ⊕ Bool) := fun s =>
 (bif decide (s < (aW1.Lies.length : Int)) then ((getI aW1.Lies s).bind fun c14 => (loopO (f75_L2 aP0 aW1 s c14) ((0:Int)))) else (((f76 aW1.Over aW1.Sections).bind fun v21 => some (!v21)).map Sum.inr))
def f75 (aP0 : Plan) (aW1 : Way) : Option Bool :=
 ((bif ((aW1.Sections.length : Int) == (0:Int)) then some true else ((f95 aW1.Sections aP0.Sections).bind fun v4 => some (!v4))).bind fun t3 => ((bif t3 then some true else ((f95 aW1.Over aP0.Sections).bind fun v6 => some (!v6))).bind fun t5 => ((bif t5 then some true else ((f95 aW1.Near aP0.Sections).bind fun v8 => some (!v8))).bind fun t7 => ((bif t7 then some true else ((f96 aP0 aW1.Lies).bind fun v10 => some (!v10))).bind fun t9 => ((bif t9 then some true else ((f96 aP0 aW1.Flanks).bind fun v12 => some (!v12))).bind fun t11 => (bif t11 then some false else (loopO (f75_L1 aP0 aW1) ((0:Int)))))))))
theorem f75_run {aP0 : Plan} {aW1 : Way} {r : Bool} {l1 l2 m3 l4 m5 l6 l7 l8 l9 l10 : Nat} (hk : f75 aP0 aW1 = some r) (hlk : 0 < lk.length := by simp) : runL Try.prog hh 75 [.agg (cPlan l1 0 l2 m3 l4 m5 aP0), .agg (cWay l6 0 l7 0 l8 0 l9 0 l10 0 aW1)] H lk = some (.bool r, H) := by
 refine run_start Try.func75 rfl Try.ntmps75 Try.results75 rfl rfl fun hO => ?_
 unfold f75 at hk
 refine lsq (lrg (pBox (cs := [_, _, _, _, _]) hO tZ37 (fun b1 G hO => ?_)))
 refine pBox (cs := [_, _, _, _, _]) hO tZ89 (fun b2 G hO => ?_)
 refine pA (.bool _) (pE (gn (lsq (lsq (lrg ?_)))))
 refine pFL tF89_0 hO 0 (.lit _ _ _) tA22 ?_
 refine pLen tS22 ?_
 refine pBi ?_
 refine pM (.bool _) (bk hk fun t3 ht hk => ?_)
 refine wpR_mid (l1 := [_, _, _, _, _, _, _]) (fun S' => ∃ J, S' = ⟨hav [(2, .ptr b1 0), (3, .ptr b2 0), (20, .bool t3)] J, G⟩) ?_ ?_
 ·refine bc (b := ((aW1.Sections.length : Int) == (0:Int))) (fun hg => ?_) (fun hg => ?_)
  ·replace hk := ct hg ht
   refine pGn hg (pGn hg (pGn hg (pGn hg (pGn hg (pGn hg (pPt hg (.bool _) ?_))))))
   cases hk; exact pE ⟨_, sh⟩
  ·replace hk := cf hg ht
   refine pGy hg (pF tF89_0 (pGy hg ?_))
   refine pLo hO 0 (.lit _ _ _) tA22 (pGy hg ?_)
   refine pF tF37_0 (pGy hg ?_)
   refine pLo hO 1 (.int _ _) tA3 (pGy hg (bk hk fun v4 hv4 hk => ?_))
   refine pCall (fun _ => f95_run hv4) (pGy hg ?_)
   refine pU ?_
   refine pPf hg (.bool _) ?_
   cases hk; exact pE ⟨_, sh⟩
 ·rintro _ ⟨J, rfl⟩
  refine pM (.bool _) (bk hk fun t5 ht hk => ?_)
  refine wpR_mid (l1 := [_, _, _, _, _, _, _]) (fun S' => ∃ J, S' = ⟨hav [(2, .ptr b1 0), (3, .ptr b2 0), (28, .bool t5)] J, G⟩) ?_ ?_
  ·refine bc (b := t3) (fun hg => ?_) (fun hg => ?_)
   ·replace hk := ct hg ht
    refine pGn hg (pGn hg (pGn hg (pGn hg (pGn hg (pGn hg (pPt hg (.bool _) ?_))))))
    cases hk; exact pE ⟨_, sh⟩
   ·replace hk := cf hg ht
    refine pGy hg (pF tF89_3 (pGy hg ?_))
    refine pLo hO 0 (.lit _ _ _) tA22 (pGy hg ?_)
    refine pF tF37_0 (pGy hg ?_)
    refine pLo hO 1 (.int _ _) tA3 (pGy hg (bk hk fun v6 hv6 hk => ?_))
    refine pCall (fun _ => f95_run hv6) (pGy hg ?_)
    refine pU ?_
    refine pPf hg (.bool _) ?_
    cases hk; exact pE ⟨_, sh⟩
  ·rintro _ ⟨J, rfl⟩
   refine pM (.bool _) (bk hk fun t7 ht hk => ?_)
   refine wpR_mid (l1 := [_, _, _, _, _, _, _]) (fun S' => ∃ J, S' = ⟨hav [(2, .ptr b1 0), (3, .ptr b2 0), (36, .bool t7)] J, G⟩) ?_ ?_
   ·refine bc (b := t5) (fun hg => ?_) (fun hg => ?_)
    ·replace hk := ct hg ht
     refine pGn hg (pGn hg (pGn hg (pGn hg (pGn hg (pGn hg (pPt hg (.bool _) ?_))))))
     cases hk; exact pE ⟨_, sh⟩
    ·replace hk := cf hg ht
     refine pGy hg (pF tF89_4 (pGy hg ?_))
     refine pLo hO 0 (.lit _ _ _) tA22 (pGy hg ?_)
     refine pF tF37_0 (pGy hg ?_)
     refine pLo hO 1 (.int _ _) tA3 (pGy hg (bk hk fun v8 hv8 hk => ?_))
     refine pCall (fun _ => f95_run hv8) (pGy hg ?_)
     refine pU ?_
     refine pPf hg (.bool _) ?_
     cases hk; exact pE ⟨_, sh⟩
   ·rintro _ ⟨J, rfl⟩
    refine pM (.bool _) (bk hk fun t9 ht hk => ?_)
    refine wpR_mid (l1 := [_, _, _, _, _, _]) (fun S' => ∃ J, S' = ⟨hav [(2, .ptr b1 0), (3, .ptr b2 0), (43, .bool t9)] J, G⟩) ?_ ?_
    ·refine bc (b := t7) (fun hg => ?_) (fun hg => ?_)
     ·replace hk := ct hg ht
      refine pGn hg (pGn hg (pGn hg (pGn hg (pGn hg (pPt hg (.bool _) ?_)))))
      cases hk; exact pE ⟨_, sh⟩
     ·replace hk := cf hg ht
      refine pGy hg (pLs hO 1 [_, _, _, _, _] tA37 tZ37 (pGy hg ?_))
      refine pF tF89_1 (pGy hg ?_)
      refine pLo hO 0 (.lit _ _ _) tA87 (pGy hg (bk hk fun v10 hv10 hk => ?_))
      refine pCall (fun _ => f96_run hv10) (pGy hg ?_)
      refine pU ?_
      refine pPf hg (.bool _) ?_
      cases hk; exact pE ⟨_, sh⟩
    ·rintro _ ⟨J, rfl⟩
     refine pM (.bool _) (bk hk fun t11 ht hk => ?_)
     refine wpR_mid (l1 := [_, _, _, _, _, _]) (fun S' => ∃ J, S' = ⟨hav [(2, .ptr b1 0), (3, .ptr b2 0), (50, .bool t11)] J, G⟩) ?_ ?_
     ·refine bc (b := t9) (fun hg => ?_) (fun hg => ?_)
      ·replace hk := ct hg ht
       refine pGn hg (pGn hg (pGn hg (pGn hg (pGn hg (pPt hg (.bool _) ?_)))))
       cases hk; exact pE ⟨_, sh⟩
      ·replace hk := cf hg ht
       refine pGy hg (pLs hO 1 [_, _, _, _, _] tA37 tZ37 (pGy hg ?_))
       refine pF tF89_2 (pGy hg ?_)
       refine pLo hO 0 (.lit _ _ _) tA87 (pGy hg (bk hk fun v12 hv12 hk => ?_))
       refine pCall (fun _ => f96_run hv12) (pGy hg ?_)
       refine pU ?_
       refine pPf hg (.bool _) ?_
       cases hk; exact pE ⟨_, sh⟩
     ·rintro _ ⟨J, rfl⟩
      refine pE (gn (lck hk (fun hk => ?_) (fun hk => ?_)))
      ·refine lsq (lrg (pA (.bool _) (pE (gn (lrt (gr ?_))))))
       cases hk; exact fin0 hO
      ·refine lsk (gn (lsq (lsq (lrg (pFL tF89_1 hO 0 (.lit _ _ _) tA87 ?_)))))
       refine pLen tS87 ?_
       refine pM (.int _ _) (pE (gn (lbl ?_)))
       refine wpL_loopO (F := f75_L1 aP0 aW1) (fun s S' => ∃ (J : Nat → V) (G : Heap), Owns H G [.blk b2 (.cells 5 (cWay l6 0 l7 0 l8 0 l9 0 l10 0 aW1)), .blk b1 (.cells 5 (cPlan l1 0 l2 m3 l4 m5 aP0))] ∧ S' = ⟨hav [(2, .ptr b1 0), (3, .ptr b2 0), (52, litL l7 0 aW1.Lies), (53, iv (aW1.Lies.length : Int)), (54, iv s)] J, G⟩) hk ⟨_, _, hO, sh⟩ ?_
       rintro x13 _ y1 ⟨J, G, hO, rfl⟩ hk hx1
       refine lsq (lrg (pBi (pE (gn (lsq (lck hk (fun hk => ?_) (fun hk => ?_)))))))
       ·refine lsk (gn (lsq (lbl (lsq (lrg (bk hk fun c14 hc14 hk => pX hc14 tE87 tZ102 ?_))))))
        refine pLp (.agg [_, _]) (rd2 (lm := 0) (off := 0) hc14 tA102 tZ102) (pNew hO tZ102 t0102 (fun b15 G hO => ?_))
        refine pSt (xs := [_, _]) hO 0 tZ102 rfl (fun G hO => pE (gn (lsq (lsq (lrg ?_)))))
        refine pFL tF89_2 hO 1 (.lit _ _ _) tA87 ?_
        refine pLen tS87 ?_
        refine pM (.int _ _) (pE (gn (lbl ?_)))
        refine wpL_loopO (F := f75_L2 aP0 aW1 x13 c14) (fun s S' => ∃ (J : Nat → V) (G : Heap), Owns H G [.blk b15 (.cells 2 [iv c14.Switch, iv c14.Lie]), .blk b2 (.cells 5 (cWay l6 0 l7 0 l8 0 l9 0 l10 0 aW1)), .blk b1 (.cells 5 (cPlan l1 0 l2 m3 l4 m5 aP0))] ∧ S' = ⟨hav [(2, .ptr b1 0), (3, .ptr b2 0), (6, .ptr b15 0), (52, litL l7 0 aW1.Lies), (53, iv (aW1.Lies.length : Int)), (54, iv x13), (59, litL l8 0 aW1.Flanks), (60, iv (aW1.Flanks.length : Int)), (61, iv s)] J, G⟩) hk ⟨_, _, hO, sh⟩ ?_
        rintro x16 _ y2 ⟨J, G, hO, rfl⟩ hk hx2
        refine lsq (lrg (pBi (pE (gn (lsq (lck hk (fun hk => ?_) (fun hk => ?_)))))))
        ·refine lsk (gn (lsq (lbl (lsq (lrg (bk hk fun c17 hc17 hk => pX hc17 tE87 tZ102 ?_))))))
         refine pLp (.agg [_, _]) (rd2 (lm := 0) (off := 0) hc17 tA102 tZ102) (pNew hO tZ102 t0102 (fun b18 G hO => ?_))
         refine pSt (xs := [_, _]) hO 0 tZ102 rfl (fun G hO => pE (gn (lsq (lrg ?_))))
         refine pFL tF102_0 hO 1 (.int _ _) tA3 ?_
         refine pFL tF102_0 hO 0 (.int _ _) tA3 ?_
         refine pBi (pE (gn (lck hk (fun hk => ?_) (fun hk => ?_))))
         ·refine lsq (lrg (pA (.bool _) (pE (gn (lrt (br (gr (gr (br (gr (br (gr (gr (br (gr (have hk := lx hx2 hk; have hk := lx hx1 hk; ?_))))))))))))))))
          cases hk; exact fin0 hO
         ·refine lsk (bn (gn (lrg (pBi ?_))))
          refine pM (.int _ _) (pE (gn ?_))
          cases hk; exact ⟨_, rfl, _, _, (pk hO [1, 2, 3]), sh⟩
        ·refine lex (ge (ge (be (gn (have hk := lx hx2 hk; lsq (wpL_drw [(0, true), (1, true), (2, true), (3, true), (4, true), (5, true), (6, true), (7, true), (8, true), (9, false), (10, false)] [_, _, _, _, _, _, _, _, _, _, _] (by decide +kernel) (by rfl) ?_))))))
         refine pFL tF37_1 hO 2 (.lit _ _ _) tA22 ?_
         refine pFL tF102_0 hO 0 (.int _ _) tA3 (bk hk fun c19 hc19 hk => ?_)
         refine pX hc19 tE22 tZ3 ?_
         refine pLp (.int _ _) (rd1 (lm := 0) (off := 0) hc19 tA3) ?_
         refine pBs (ps := [(0, (.int _ _))]) ([c19] : List Int) tE22 tZ3 t03 (emb_cons (embx_int _ _) (emb_nil)) ?_
         refine pFL tF89_0 hO 1 (.lit _ _ _) tA22 (bk hk fun v20 hv20 hk => ?_)
         refine pCall (vs := [(.tl 1 (flatL 0 ([c19] : List Int))), (.lit _ _ _)]) (caps := []) (fun _ => f76_run hv20) ?_ (h3 := (la_cons (ld_tl ([c19] : List Int) 6) (la_cons rfl la_nil)))
         refine pU (pE (gn (lck hk (fun hk => ?_) (fun hk => ?_))))
         ·refine lsq (lrg (pA (.bool _) (pE (gn (lrt (br (gr (gr (br (gr (have hk := lx hx1 hk; ?_)))))))))))
          cases hk; exact fin0 hO
         ·refine lsk (bn (gn (lrg (pBi ?_))))
          refine pM (.int _ _) (pE (gn ?_))
          cases hk; exact ⟨_, rfl, _, _, (pk hO [1, 2]), sh⟩
       ·refine lex (ge (ge (be (gn (have hk := lx hx1 hk; lsq (lrg (pFL tF89_3 hO 0 (.lit _ _ _) tA22 ?_)))))))
        refine pFL tF89_0 hO 0 (.lit _ _ _) tA22 (bk hk fun v21 hv21 hk => ?_)
        refine pCall (fun _ => f76_run hv21) ?_
        refine pU ?_
        refine pA (.bool _) (pE (gn (lrt ?_)))
        cases hk; exact fin0 hO
def f56_L5 (aP0 : Plan) (x15 : Int) (c16 : List Bool) : Int → Option (Int ⊕ (Int ⊕ Fault)) := fun s =>
 (bif decide (s < (c16.length : Int)) then ((getI c16 s).bind fun c18 => ((getI aP0.Bars s).bind fun c19 => ((getI c19 x15).bind fun c20 => ((bif !(c18 == c20) then some true else ((bif ((x15 != s) && !c18) then ((getI aP0.Ways x15).bind fun c23 => ((getI aP0.Ways s).bind fun c24 => ((f76 c23.Sections c24.Sections).bind fun v25 => some v25))) else some false).bind fun t22 => some t22)).bind fun t21 => (bif t21 then (((some ({ Code := (5:Int), At := x15 } : Fault)).map Sum.inr).map Sum.inr) else some (.inl (w64 (s + (1:Int))))))))) else ((some (.inl (w64 (x15 + (1:Int))))).map Sum.inr))
def f56_L4 (aP0 : Plan) : Int → Option (Int ⊕ Fault) := fun s =>
 (bif decide (s < (aP0.Bars.length : Int)) then ((getI aP0.Bars s).bind fun c16 => (loopO (f56_L5 aP0 s c16) ((0:Int)))) else ((some ({ Code := 0, At := 0 } : Fault)).map Sum.inr))
def f56_L3 (aP0 : Plan) : Int → Option (Int ⊕ Fault) := fun s =>
 (bif decide (s < (aP0.Bars.length : Int)) then ((getI aP0.Bars s).bind fun c14 => (bif ((c14.length : Int) != (aP0.Ways.length : Int)) then ((some ({ Code := (4:Int), At := s } : Fault)).map Sum.inr) else some (.inl (w64 (s + (1:Int)))))) else ((loopO (f56_L4 aP0) ((0:Int))).map Sum.inr))
def f56_L2 (aP0 : Plan) : Int → Option (Int ⊕ Fault) := fun s =>
 (bif decide (s < (aP0.Ways.length : Int)) then ((getI aP0.Ways s).bind fun c10 => ((f75 aP0 c10).bind fun v12 => (bif !v12 then ((some ({ Code := (3:Int), At := s } : Fault)).map Sum.inr) else some (.inl (w64 (s + (1:Int))))))) else ((bif ((aP0.Bars.length : Int) != (aP0.Ways.length : Int)) then some ({ Code := (4:Int), At := 0 } : Fault) else (loopO (f56_L3 aP0) ((0:Int)))).map Sum.inr))
def f56_L1 (aP0 : Plan) : Int → Option (Int ⊕ Fault) := fun s =>
 (bif decide (s < (aP0.Switches.length : Int)) then ((getI aP0.Switches s).bind fun c7 => ((f28 c7 (0:Int) (w64 (aP0.Sections - (1:Int)))).bind fun v8 => (bif !v8 then ((some ({ Code := (2:Int), At := s } : Fault)).map Sum.inr) else some (.inl (w64 (s + (1:Int))))))) else ((loopO (f56_L2 aP0) ((0:Int))).map Sum.inr))
def f56 (aP0 : Plan) : Option Fault :=
 ((f28 aP0.Sections (1:Int) (60:Int)).bind fun v3 => ((bif ((!v3 || decide ((aP0.Switches.length : Int) > (40:Int))) || decide ((aP0.Ways.length : Int) > (100:Int))) then some true else ((f28 aP0.Hold (1:Int) (300:Int)).bind fun v5 => some (!v5))).bind fun t4 => (bif t4 then some ({ Code := (1:Int), At := 0 } : Fault) else (loopO (f56_L1 aP0) ((0:Int))))))
theorem f56_run {aP0 : Plan} {r : Fault} {l1 l2 m3 l4 m5 : Nat} (hk : f56 aP0 = some r) (hlk : 0 < lk.length := by simp) : runL Try.prog hh 56 [.agg (cPlan l1 0 l2 m3 l4 m5 aP0)] H lk = some (.agg [iv r.Code, iv r.At], H) := by
 refine run_start Try.func56 rfl Try.ntmps56 Try.results56 rfl rfl fun hO => ?_
 unfold f56 at hk
 refine lsq (lrg (pBox (cs := [_, _, _, _, _]) hO tZ37 (fun b1 G hO => pNew hO tZ85 t085 (fun b2 G hO => pE (gn (lsq (lsq (lrg ?_))))))))
 refine pFL tF37_0 hO 1 (.int _ _) tA3 (bk hk fun v3 hv3 hk => ?_)
 refine pCall (fun _ => f28_run hv3) ?_
 refine pU ?_
 refine pM (.bool _) ?_
 refine wpR_mid (l1 := [_, _, _, _, _]) (fun S' => ∃ J, S' = ⟨hav [(1, .ptr b1 0), (2, .ptr b2 0), (22, .bool (!v3 || decide ((aP0.Switches.length : Int) > (40:Int))))] J, G⟩) ?_ ?_
 ·refine bc (b := !v3) (fun hg => ?_) (fun hg => ?_)
  ·refine pGn hg (pGn hg (pGn hg (pGn hg (pPt hg (.bool _) ?_))))
   exact pE ⟨_, St.hav _ ⟨rfl, rfl, by rw [hg]; rfl, trivial⟩⟩
  ·refine pGy hg (pF tF37_1 (pGy hg ?_))
   refine pLo hO 1 (.lit _ _ _) tA22 (pGy hg ?_)
   refine pLen tS22 (pGy hg ?_)
   refine pBi ?_
   refine pPf hg (.bool _) ?_
   exact pE ⟨_, St.hav _ ⟨rfl, rfl, by rw [hg]; rfl, trivial⟩⟩
 ·rintro _ ⟨J, rfl⟩
  refine pM (.bool _) ?_
  refine wpR_mid (l1 := [_, _, _, _, _]) (fun S' => ∃ J, S' = ⟨hav [(1, .ptr b1 0), (2, .ptr b2 0), (28, .bool ((!v3 || decide ((aP0.Switches.length : Int) > (40:Int))) || decide ((aP0.Ways.length : Int) > (100:Int))))] J, G⟩) ?_ ?_
  ·refine bc (b := (!v3 || decide ((aP0.Switches.length : Int) > (40:Int)))) (fun hg => ?_) (fun hg => ?_)
   ·refine pGn hg (pGn hg (pGn hg (pGn hg (pPt hg (.bool _) ?_))))
    exact pE ⟨_, St.hav _ ⟨rfl, rfl, by rw [hg]; rfl, trivial⟩⟩
   ·refine pGy hg (pF tF37_2 (pGy hg ?_))
    refine pLo hO 1 (.lit _ _ _) tA35 (pGy hg ?_)
    refine pLen tS35 (pGy hg ?_)
    refine pBi ?_
    refine pPf hg (.bool _) ?_
    exact pE ⟨_, St.hav _ ⟨rfl, rfl, by rw [hg]; rfl, trivial⟩⟩
  ·rintro _ ⟨J, rfl⟩
   refine pM (.bool _) (bk hk fun t4 ht hk => ?_)
   refine wpR_mid (l1 := [_, _, _, _, _]) (fun S' => ∃ J, S' = ⟨hav [(1, .ptr b1 0), (2, .ptr b2 0), (34, .bool t4)] J, G⟩) ?_ ?_
   ·refine bc (b := ((!v3 || decide ((aP0.Switches.length : Int) > (40:Int))) || decide ((aP0.Ways.length : Int) > (100:Int)))) (fun hg => ?_) (fun hg => ?_)
    ·replace hk := ct hg ht
     refine pGn hg (pGn hg (pGn hg (pGn hg (pPt hg (.bool _) ?_))))
     cases hk; exact pE ⟨_, sh⟩
    ·replace hk := cf hg ht
     refine pGy hg (pF tF37_4 (pGy hg ?_))
     refine pLo hO 1 (.int _ _) tA3 (pGy hg (bk hk fun v5 hv5 hk => ?_))
     refine pCall (fun _ => f28_run hv5) (pGy hg ?_)
     refine pU ?_
     refine pPf hg (.bool _) ?_
     cases hk; exact pE ⟨_, sh⟩
   ·rintro _ ⟨J, rfl⟩
    refine pE (gn (lck hk (fun hk => ?_) (fun hk => ?_)))
    ·refine lsq (lrg (pBd [_, _] t085 tP85 ?_))
     refine pSt (xs := [_, _]) hO 0 tZ85 rfl (fun G hO => pE (gn (lrt (gr ?_))))
     replace hk := Option.some.inj hk; subst hk; exact finZ hO (fz_agg (n := 2) (fz_c (fz_int _ _) (fz_c (fz_int _ _) (fz_n)))) (resS hO 0 [_, _] tA85 tZ85 resN)
    ·refine lsk (gn (lsq (lsq (lrg (pFL tF37_1 hO 1 (.lit _ _ _) tA22 ?_)))))
     refine pLen tS22 ?_
     refine pM (.int _ _) (pE (gn (lbl ?_)))
     refine wpL_loopO (F := f56_L1 aP0) (fun s S' => ∃ (J : Nat → V) (G : Heap), Owns H G [.blk b2 (.cells 2 [iv 0, iv 0]), .blk b1 (.cells 5 (cPlan l1 0 l2 m3 l4 m5 aP0))] ∧ S' = ⟨hav [(1, .ptr b1 0), (2, .ptr b2 0), (37, litL l1 0 aP0.Switches), (38, iv (aP0.Switches.length : Int)), (39, iv s)] J, G⟩) hk ⟨_, _, hO, sh⟩ ?_
     rintro x6 _ y1 ⟨J, G, hO, rfl⟩ hk hx1
     refine lsq (lrg (pBi (pE (gn (lsq (lck hk (fun hk => ?_) (fun hk => ?_)))))))
     ·refine lsk (gn (lsq (lbl (lsq (lrg (pM (.int _ _) (bk hk fun c7 hc7 hk => ?_)))))))
      refine pX hc7 tE22 tZ3 ?_
      refine pLp (.int _ _) (rd1 (lm := 0) (off := 0) hc7 tA3) ?_
      refine pA (.int _ _) ?_
      refine pA (.int _ _) (pE (gn (lsq (lrg ?_))))
      refine pM (.int _ _) ?_
      refine pFL tF37_0 hO 1 (.int _ _) tA3 ?_
      refine pBi (bk hk fun v8 hv8 hk => ?_)
      refine pCall (fun _ => f28_run hv8) ?_
      refine pU (pE (gn (lck hk (fun hk => ?_) (fun hk => ?_))))
      ·refine lsq (lrg (pM (.int _ _) ?_))
       refine pBd [_, _] t085 tP85 ?_
       refine pSt (xs := [_, _]) hO 0 tZ85 rfl (fun G hO => pE (gn (lrt (br (gr (gr (br (gr (have hk := lx hx1 hk; ?_)))))))))
       replace hk := Option.some.inj hk; subst hk; exact finZ hO (fz_agg (n := 2) (fz_c (fz_int _ _) (fz_c (fz_int _ _) (fz_n)))) (resS hO 0 [_, _] tA85 tZ85 resN)
      ·refine lsk (bn (gn (lrg (pBi ?_))))
       refine pM (.int _ _) (pE (gn ?_))
       cases hk; exact ⟨_, rfl, _, _, hO, sh⟩
     ·refine lex (ge (ge (be (gn (have hk := lx hx1 hk; lsq (lsq (lrg (pFL tF37_2 hO 1 (.lit _ _ _) tA35 ?_))))))))
      refine pLen tS35 ?_
      refine pM (.int _ _) (pE (gn (lbl ?_)))
      refine wpL_loopO (F := f56_L2 aP0) (fun s S' => ∃ (J : Nat → V) (G : Heap), Owns H G [.blk b2 (.cells 2 [iv 0, iv 0]), .blk b1 (.cells 5 (cPlan l1 0 l2 m3 l4 m5 aP0))] ∧ S' = ⟨hav [(1, .ptr b1 0), (2, .ptr b2 0), (54, litL l2 m3 aP0.Ways), (55, iv (aP0.Ways.length : Int)), (56, iv s)] J, G⟩) hk ⟨_, _, hO, sh⟩ ?_
      rintro x9 _ y1 ⟨J, G, hO, rfl⟩ hk hx1
      refine lsq (lrg (pBi (pE (gn (lsq (lck hk (fun hk => ?_) (fun hk => ?_)))))))
      ·refine lsk (gn (lsq (lbl (lsq (lrg (pM (.int _ _) (bk hk fun c10 hc10 hk => ?_)))))))
       refine pX hc10 tE35 tZ89 ?_
       refine pLp (.agg [_, _, _, _, _]) (rd2 (lm := m3) (off := 0) hc10 tA89 tZ89) (pNew hO tZ89 t089 (fun b11 G hO => ?_))
       refine pA (.int _ _) ?_
       refine pSt (xs := [_, _, _, _, _]) hO 0 tZ89 rfl (fun G hO => pE (gn (lsq (lrg ?_))))
       refine pLs hO 2 [_, _, _, _, _] tA37 tZ37 ?_
       refine pLs hO 0 [_, _, _, _, _] tA89 tZ89 (bk hk fun v12 hv12 hk => ?_)
       refine pCall (fun _ => f75_run hv12) ?_
       refine pU (pE (gn (lck hk (fun hk => ?_) (fun hk => ?_))))
       ·refine lsq (lrg (pM (.int _ _) ?_))
        refine pBd [_, _] t085 tP85 ?_
        refine pSt (xs := [_, _]) hO 1 tZ85 rfl (fun G hO => pE (gn (lrt (br (gr (gr (br (gr (have hk := lx hx1 hk; ?_)))))))))
        replace hk := Option.some.inj hk; subst hk; exact finZ hO (fz_agg (n := 2) (fz_c (fz_int _ _) (fz_c (fz_int _ _) (fz_n)))) (resS hO 1 [_, _] tA85 tZ85 resN)
       ·refine lsk (bn (gn (lrg (pBi ?_))))
        refine pM (.int _ _) (pE (gn ?_))
        cases hk; exact ⟨_, rfl, _, _, (pk hO [1, 2]), sh⟩
      ·refine lex (ge (ge (be (gn (have hk := lx hx1 hk; lsq (lsq (lrg (pFL tF37_3 hO 1 (.lit _ _ _) tA24 ?_))))))))
       refine pLen tS24 ?_
       refine pFL tF37_2 hO 1 (.lit _ _ _) tA35 ?_
       refine pLen tS35 ?_
       refine pBi (pE (gn (lck hk (fun hk => ?_) (fun hk => ?_))))
       ·refine lsq (lrg (pBd [_, _] t085 tP85 ?_))
        refine pSt (xs := [_, _]) hO 0 tZ85 rfl (fun G hO => pE (gn (lrt (gr ?_))))
        replace hk := Option.some.inj hk; subst hk; exact finZ hO (fz_agg (n := 2) (fz_c (fz_int _ _) (fz_c (fz_int _ _) (fz_n)))) (resS hO 0 [_, _] tA85 tZ85 resN)
       ·refine lsk (gn (lsq (lsq (lrg (pFL tF37_3 hO 1 (.lit _ _ _) tA24 ?_)))))
        refine pLen tS24 ?_
        refine pM (.int _ _) (pE (gn (lbl ?_)))
        refine wpL_loopO (F := f56_L3 aP0) (fun s S' => ∃ (J : Nat → V) (G : Heap), Owns H G [.blk b2 (.cells 2 [iv 0, iv 0]), .blk b1 (.cells 5 (cPlan l1 0 l2 m3 l4 m5 aP0))] ∧ S' = ⟨hav [(1, .ptr b1 0), (2, .ptr b2 0), (77, litL l4 m5 aP0.Bars), (78, iv (aP0.Bars.length : Int)), (79, iv s)] J, G⟩) hk ⟨_, _, hO, sh⟩ ?_
        rintro x13 _ y1 ⟨J, G, hO, rfl⟩ hk hx1
        refine lsq (lrg (pBi (pE (gn (lsq (lck hk (fun hk => ?_) (fun hk => ?_)))))))
        ·refine lsk (gn (lsq (lbl (lsq (lrg (pM (.int _ _) (bk hk fun c14 hc14 hk => ?_)))))))
         refine pX hc14 tE24 tZ27 ?_
         refine pLp (.lit _ _ _) (rd1 (lm := m5) (off := 0) hc14 tA27) ?_
         refine pA (.int _ _) ?_
         refine pA (.lit _ _ _) (pE (gn (lsq (lrg ?_))))
         refine pM (.lit _ _ _) ?_
         refine pLen tS27 ?_
         refine pFL tF37_2 hO 1 (.lit _ _ _) tA35 ?_
         refine pLen tS35 ?_
         refine pBi (pE (gn (lck hk (fun hk => ?_) (fun hk => ?_))))
         ·refine lsq (lrg (pM (.int _ _) ?_))
          refine pBd [_, _] t085 tP85 ?_
          refine pSt (xs := [_, _]) hO 0 tZ85 rfl (fun G hO => pE (gn (lrt (br (gr (gr (br (gr (have hk := lx hx1 hk; ?_)))))))))
          replace hk := Option.some.inj hk; subst hk; exact finZ hO (fz_agg (n := 2) (fz_c (fz_int _ _) (fz_c (fz_int _ _) (fz_n)))) (resS hO 0 [_, _] tA85 tZ85 resN)
         ·refine lsk (bn (gn (lrg (pBi ?_))))
          refine pM (.int _ _) (pE (gn ?_))
          cases hk; exact ⟨_, rfl, _, _, hO, sh⟩
        ·refine lex (ge (ge (be (gn (have hk := lx hx1 hk; lsq (lsq (lrg (pFL tF37_3 hO 1 (.lit _ _ _) tA24 ?_))))))))
         refine pLen tS24 ?_
         refine pM (.int _ _) (pE (gn (lbl ?_)))
         refine wpL_loopO (F := f56_L4 aP0) (fun s S' => ∃ (J : Nat → V) (G : Heap), Owns H G [.blk b2 (.cells 2 [iv 0, iv 0]), .blk b1 (.cells 5 (cPlan l1 0 l2 m3 l4 m5 aP0))] ∧ S' = ⟨hav [(1, .ptr b1 0), (2, .ptr b2 0), (94, litL l4 m5 aP0.Bars), (95, iv (aP0.Bars.length : Int)), (96, iv s)] J, G⟩) hk ⟨_, _, hO, sh⟩ ?_
         rintro x15 _ y1 ⟨J, G, hO, rfl⟩ hk hx1
         refine lsq (lrg (pBi (pE (gn (lsq (lck hk (fun hk => ?_) (fun hk => ?_)))))))
         ·refine lsk (gn (lsq (lbl (lsq (lrg (pM (.int _ _) (bk hk fun c16 hc16 hk => ?_)))))))
          refine pX hc16 tE24 tZ27 ?_
          refine pLp (.lit _ _ _) (rd1 (lm := m5) (off := 0) hc16 tA27) ?_
          refine pA (.int _ _) ?_
          refine pA (.lit _ _ _) (pE (gn (lsq (lrg ?_))))
          refine pM (.lit _ _ _) ?_
          refine pLen tS27 ?_
          refine pM (.int _ _) (pE (gn (lbl ?_)))
          refine wpL_loopO (F := f56_L5 aP0 x15 c16) (fun s S' => ∃ (J : Nat → V) (G : Heap), Owns H G [.blk b2 (.cells 2 [iv 0, iv 0]), .blk b1 (.cells 5 (cPlan l1 0 l2 m3 l4 m5 aP0))] ∧ S' = ⟨hav [(1, .ptr b1 0), (2, .ptr b2 0), (9, iv x15), (94, litL l4 m5 aP0.Bars), (95, iv (aP0.Bars.length : Int)), (96, iv x15), (101, litL m5 0 c16), (102, iv (c16.length : Int)), (103, iv s)] J, G⟩) hk ⟨_, _, hO, sh⟩ ?_
          rintro x17 _ y2 ⟨J, G, hO, rfl⟩ hk hx2
          refine lsq (lrg (pBi (pE (gn (lsq (lck hk (fun hk => ?_) (fun hk => ?_)))))))
          ·refine lsk (gn (lsq (lbl (lsq (lrg (pM (.int _ _) (bk hk fun c18 hc18 hk => ?_)))))))
           refine pX hc18 tE27 tZ4 ?_
           refine pLp (.bool _) (rd1 (lm := 0) (off := 0) hc18 tA4) ?_
           refine pA (.int _ _) ?_
           refine pA (.bool _) (pE (gn (lsq ?_)))
           refine wpL_drw [(0, true), (1, false), (2, true), (3, true), (4, false), (5, true), (6, true), (7, false), (8, true), (9, false), (10, false), (11, false), (12, false), (13, false), (14, false), (15, false), (16, false), (17, false), (18, false), (19, true), (20, true), (21, true), (22, true), (23, true), (24, true), (25, true), (26, true), (27, true), (28, true), (29, true), (30, true), (31, false), (32, false), (33, false)] [_, _, _, _, _, _, _, _, _, _, _, _, _, _, _, _, _, _, _, _, _, _, _, _, _, _, _, _, _, _, _, _, _, _] (by decide +kernel) (by rfl) ?_
           refine pM (.bool _) ?_
           refine pFL tF37_3 hO 1 (.lit _ _ _) tA24 ?_
           refine pM (.int _ _) (bk hk fun c19 hc19 hk => ?_)
           refine pX hc19 tE24 tZ27 ?_
           refine pLp (.lit _ _ _) (rd1 (lm := m5) (off := 0) hc19 tA27) ?_
           refine pM (.int _ _) (bk hk fun c20 hc20 hk => ?_)
           refine pX hc20 tE27 tZ4 ?_
           refine pLp (.bool _) (rd1 (lm := 0) (off := 0) hc20 tA4) ?_
           refine pBn Try.underlying4 ?_
           refine pM (.bool _) (bk hk fun t21 ht hk => ?_)
           refine wpR_mid (l1 := [_, _, _, _, _, _, _, _, _, _, _, _, _, _, _, _, _, _, _, _, _, _, _]) (fun S' => ∃ J, S' = ⟨hav [(1, .ptr b1 0), (2, .ptr b2 0), (9, iv x15), (94, litL l4 m5 aP0.Bars), (95, iv (aP0.Bars.length : Int)), (96, iv x15), (101, litL m5 0 c16), (102, iv (c16.length : Int)), (103, iv x17), (141, .bool t21)] J, G⟩) ?_ ?_
           ·refine bc (b := !(c18 == c20)) (fun hg => ?_) (fun hg => ?_)
            ·replace hk := ct hg ht
             refine pGn hg (pGn hg (pGn hg (pGn hg (pGu (pGu (pGn hg (pGn hg (pGu (pGu (pGu (pGu (pGu (pGu (pGu (pGu (pGu (pGu (pGu (pGu (pGu (pGn hg (pPt hg (.bool _) ?_))))))))))))))))))))))
             cases hk; exact pE ⟨_, sh⟩
            ·replace hk := cf hg ht
             refine pGy hg (pM (.int _ _) (pGy hg ?_))
             refine pM (.int _ _) (pGy hg ?_)
             refine pBi (pGy hg ?_)
             refine pM (.bool _) ?_
             refine wpR_mid (l1 := [_, _, _]) (fun S' => ∃ J, S' = ⟨hav [(1, .ptr b1 0), (2, .ptr b2 0), (9, iv x15), (11, iv x17), (94, litL l4 m5 aP0.Bars), (95, iv (aP0.Bars.length : Int)), (96, iv x15), (101, litL m5 0 c16), (102, iv (c16.length : Int)), (103, iv x17), (118, .bool (!(c18 == c20))), (125, .bool ((x15 != x17) && !c18))] J, G⟩) ?_ ?_
             ·refine bc (b := (x15 != x17)) (fun hg2 => ?_) (fun hg2 => ?_)
              ·refine pGy hg2 (pM (.bool _) (pGy hg2 ?_))
               refine pU (pGy hg ?_)
               refine pPt hg2 (.bool _) ?_
               exact pE ⟨_, St.hav _ ⟨rfl, rfl, rfl, rfl, rfl, rfl, rfl, rfl, rfl, rfl, rfl, by rw [hg2]; rfl, trivial⟩⟩
              ·refine pGn hg2 (pGn hg2 (pGy hg (pPf hg2 (.bool _) ?_)))
               exact pE ⟨_, St.hav _ ⟨rfl, rfl, rfl, rfl, rfl, rfl, rfl, rfl, rfl, rfl, rfl, by rw [hg2]; rfl, trivial⟩⟩
             ·rintro _ ⟨J, rfl⟩
              refine pGy hg (pM (.bool _) (bk hk fun t22 ht hk => ?_))
              refine wpR_mid (l1 := [_, _, _, _, _, _, _, _, _, _, _, _, _, _]) (fun S' => ∃ J, S' = ⟨hav [(1, .ptr b1 0), (2, .ptr b2 0), (9, iv x15), (94, litL l4 m5 aP0.Bars), (95, iv (aP0.Bars.length : Int)), (96, iv x15), (101, litL m5 0 c16), (102, iv (c16.length : Int)), (103, iv x17), (118, .bool (!(c18 == c20))), (140, .bool t22)] J, G⟩) ?_ ?_
              ·refine bc (b := ((x15 != x17) && !c18)) (fun hg2 => ?_) (fun hg2 => ?_)
               ·replace hk := ct hg2 ht
                refine pGy hg2 (pF tF37_2 (pGy hg2 ?_))
                refine pLo hO 1 (.lit _ _ _) tA35 (pGy hg2 ?_)
                refine pM (.int _ _) (pGy hg2 (bk hk fun c23 hc23 hk => ?_))
                refine pX hc23 tE35 tZ89 (pGy hg2 ?_)
                refine pF tF89_0 (pGy hg2 ?_)
                refine pLp (.lit _ _ _) (rd1 (lm := m3) (off := 0) hc23 tA22) (pGy hg2 ?_)
                refine pF tF37_2 (pGy hg2 ?_)
                refine pLo hO 1 (.lit _ _ _) tA35 (pGy hg2 ?_)
                refine pM (.int _ _) (pGy hg2 (bk hk fun c24 hc24 hk => ?_))
                refine pX hc24 tE35 tZ89 (pGy hg2 ?_)
                refine pF tF89_0 (pGy hg2 ?_)
                refine pLp (.lit _ _ _) (rd1 (lm := m3) (off := 0) hc24 tA22) (pGy hg2 (bk hk fun v25 hv25 hk => ?_))
                refine pCall (fun _ => f76_run hv25) (pGy hg ?_)
                refine pPt hg2 (.bool _) ?_
                cases hk; exact pE ⟨_, sh⟩
               ·replace hk := cf hg2 ht
                refine pGn hg2 (pGn hg2 (pGn hg2 (pGn hg2 (pGn hg2 (pGn hg2 (pGn hg2 (pGn hg2 (pGn hg2 (pGn hg2 (pGn hg2 (pGn hg2 (pGn hg2 (pGy hg (pPf hg2 (.bool _) ?_))))))))))))))
                cases hk; exact pE ⟨_, sh⟩
              ·rintro _ ⟨J, rfl⟩
               refine pPf hg (.bool _) ?_
               cases hk; exact pE ⟨_, sh⟩
           ·rintro _ ⟨J, rfl⟩
            refine pE (gn (lck hk (fun hk => ?_) (fun hk => ?_)))
            ·refine lsq (lrg (pM (.int _ _) ?_))
             refine pBd [_, _] t085 tP85 ?_
             refine pSt (xs := [_, _]) hO 0 tZ85 rfl (fun G hO => pE (gn (lrt (br (gr (gr (br (br (gr (gr (br (gr (have hk := lx hx2 hk; have hk := lx hx1 hk; ?_)))))))))))))
             replace hk := Option.some.inj hk; subst hk; exact finZ hO (fz_agg (n := 2) (fz_c (fz_int _ _) (fz_c (fz_int _ _) (fz_n)))) (resS hO 0 [_, _] tA85 tZ85 resN)
            ·refine lsk (bn (gn (lrg (pBi ?_))))
             refine pM (.int _ _) (pE (gn ?_))
             cases hk; exact ⟨_, rfl, _, _, hO, sh⟩
          ·refine lex (ge (ge (be (bn (gn (have hk := lx hx2 hk; lrg (pBi ?_)))))))
           refine pM (.int _ _) (pE (gn ?_))
           cases hk; exact ⟨_, rfl, _, _, hO, sh⟩
         ·refine lex (ge (ge (be (gn (have hk := lx hx1 hk; lsq (lrg (pBd [_, _] t085 tP85 ?_)))))))
          refine pSt (xs := [_, _]) hO 0 tZ85 rfl (fun G hO => pE (gn (lrt ?_)))
          replace hk := Option.some.inj hk; subst hk; exact finZ hO (fz_agg (n := 2) (fz_c (fz_int _ _) (fz_c (fz_int _ _) (fz_n)))) (resS hO 0 [_, _] tA85 tZ85 resN)
def f27 (aP0 : Plan) : Option Bool :=
 ((f56 aP0).bind fun v2 => some (v2.Code == (0:Int)))
theorem f27_run {aP0 : Plan} {r : Bool} {l1 l2 m3 l4 m5 : Nat} (hk : f27 aP0 = some r) (hlk : 0 < lk.length := by simp) : runL Try.prog hh 27 [.agg (cPlan l1 0 l2 m3 l4 m5 aP0)] H lk = some (.bool r, H) := by
 refine run_start Try.func27 rfl Try.ntmps27 Try.results27 rfl rfl fun hO => ?_
 unfold f27 at hk
 refine lsq (lrg (pBox (cs := [_, _, _, _, _]) hO tZ37 (fun b1 G hO => ?_)))
 refine pA (.bool _) (pE (gn (lsq (lrg ?_))))
 refine pLs hO 0 [_, _, _, _, _] tA37 tZ37 (bk hk fun v2 hv2 hk => ?_)
 refine pCall (fun _ => f56_run hv2) (pNew hO tZ85 t085 (fun b3 G hO => ?_))
 refine pSt (xs := [_, _]) hO 0 tZ85 rfl (fun G hO => pE (gn (lsq (lrg ?_))))
 refine pFL tF85_0 hO 0 (.int _ _) tA3 ?_
 refine pBi ?_
 refine pA (.bool _) (pE (gn (lrt ?_)))
 cases hk; exact fin0 hO
def f29_L2 (aP0 : Plan) (c3 : Held) : Int → Option (Int ⊕ Bool) := fun s =>
 (bif decide (s < c3.Gone) then ((getI c3.Been s).bind fun c10 => (bif !c10 then ((some false).map Sum.inr) else some (.inl (w64 (s + (1:Int)))))) else ((bif (c3.State == (3:Int)) then ((bif c3.Shown then ((f28 c3.Timer (1:Int) aP0.Hold).bind fun v12 => some v12) else some false).bind fun t11 => some t11) else some (((c3.Timer == (0:Int)) && ((c3.State != (0:Int)) || !c3.Shown)) && ((c3.State != (2:Int)) || c3.Shown))).map Sum.inr))
def f29_k1 (aP0 : Plan) (c3 : Held) : Option Bool :=
 (loopO (f29_L2 aP0 c3) ((0:Int)))
def f29_L3 (aP0 : Plan) (c3 : Held) : Int → Option (Int ⊕ Bool) := fun s =>
 (bif decide (s < (c3.Been.length : Int)) then ((getI c3.Been s).bind fun c14 => (bif c14 then ((some false).map Sum.inr) else some (.inl (w64 (s + (1:Int)))))) else ((bif (c3.Gone != (0:Int)) then some false else (f29_k1 aP0 c3)).map Sum.inr))
def f29 (aP0 : Plan) (aF1 : Frame) (aI2 : Int) : Option Bool :=
 ((getI aF1.Ways aI2).bind fun c3 => ((getI aP0.Ways aI2).bind fun c5 => ((f28 c3.State (0:Int) (4:Int)).bind fun v6 => ((bif (!v6 || ((c3.Been.length : Int) != (c5.Sections.length : Int))) then some true else ((f28 c3.Gone (0:Int) (w64 ((c5.Sections.length : Int) - (1:Int)))).bind fun v8 => some (!v8))).bind fun t7 => (bif t7 then some false else (bif (c3.State != (4:Int)) then (loopO (f29_L3 aP0 c3) ((0:Int))) else (f29_k1 aP0 c3)))))))
theorem f29_run {aP0 : Plan} {aF1 : Frame} {aI2 : Int} {r : Bool} {l1 l2 m3 l4 m5 l6 l7 l8 m9 : Nat} (hk : f29 aP0 aF1 aI2 = some r) (hlk : 0 < lk.length := by simp) : runL Try.prog hh 29 [.agg (cPlan l1 0 l2 m3 l4 m5 aP0), .agg (cFrame l6 0 l7 0 l8 m9 aF1), iv aI2] H lk = some (.bool r, H) := by
 refine run_start Try.func29 rfl Try.ntmps29 Try.results29 rfl rfl fun hO => ?_
 unfold f29 at hk
 refine lsq (lrg (pBox (cs := [_, _, _, _, _]) hO tZ37 (fun b1 G hO => ?_)))
 refine pBox (cs := [_, _, _, _]) hO tZ42 (fun b2 G hO => ?_)
 refine pA (.bool _) (pE (gn (lsq (lrg ?_))))
 refine pFL tF42_3 hO 0 (.lit _ _ _) tA40 ?_
 refine pM (.int _ _) (bk hk fun c3 hc3 hk => ?_)
 refine pX hc3 tE40 tZ61 ?_
 refine pLp (.agg [_, _, _, _, _]) (rd2 (lm := m9) (off := 0) hc3 tA61 tZ61) (pNew hO tZ61 t061 (fun b4 G hO => ?_))
 refine pSt (xs := [_, _, _, _, _]) hO 0 tZ61 rfl (fun G hO => pE (gn (lsq (lrg ?_))))
 refine pFL tF37_2 hO 2 (.lit _ _ _) tA35 ?_
 refine pM (.int _ _) (bk hk fun c5 hc5 hk => ?_)
 refine pX hc5 tE35 tZ89 ?_
 refine pF tF89_0 ?_
 refine pLp (.lit _ _ _) (rd1 (lm := m3) (off := 0) hc5 tA22) ?_
 refine pLen tS22 ?_
 refine pA (.int _ _) (pE (gn (lsq (lsq (lrg ?_)))))
 refine pFL tF61_0 hO 0 (.int _ _) tA3 (bk hk fun v6 hv6 hk => ?_)
 refine pCall (fun _ => f28_run hv6) ?_
 refine pU ?_
 refine pM (.bool _) ?_
 refine wpR_mid (l1 := [_, _, _, _, _, _]) (fun S' => ∃ J, S' = ⟨hav [(3, .ptr b1 0), (7, .ptr b4 0), (8, iv (c5.Sections.length : Int)), (34, .bool (!v6 || ((c3.Been.length : Int) != (c5.Sections.length : Int))))] J, G⟩) ?_ ?_
 ·refine bc (b := !v6) (fun hg => ?_) (fun hg => ?_)
  ·refine pGn hg (pGn hg (pGn hg (pGn hg (pGn hg (pPt hg (.bool _) ?_)))))
   exact pE ⟨_, St.hav _ ⟨rfl, rfl, rfl, by rw [hg]; rfl, trivial⟩⟩
  ·refine pGy hg (pF tF61_2 (pGy hg ?_))
   refine pLo hO 0 (.lit _ _ _) tA27 (pGy hg ?_)
   refine pLen tS27 (pGy hg ?_)
   refine pM (.int _ _) (pGy hg ?_)
   refine pBi ?_
   refine pPf hg (.bool _) ?_
   exact pE ⟨_, St.hav _ ⟨rfl, rfl, rfl, by rw [hg]; rfl, trivial⟩⟩
 ·rintro _ ⟨J, rfl⟩
  refine pM (.bool _) (bk hk fun t7 ht hk => ?_)
  refine wpR_mid (l1 := [_, _, _, _, _, _, _]) (fun S' => ∃ J, S' = ⟨hav [(3, .ptr b1 0), (7, .ptr b4 0), (42, .bool t7)] J, G⟩) ?_ ?_
  ·refine bc (b := (!v6 || ((c3.Been.length : Int) != (c5.Sections.length : Int)))) (fun hg => ?_) (fun hg => ?_)
   ·replace hk := ct hg ht
    refine pGn hg (pGn hg (pGn hg (pGn hg (pGn hg (pGn hg (pPt hg (.bool _) ?_))))))
    cases hk; exact pE ⟨_, sh⟩
   ·replace hk := cf hg ht
    refine pGy hg (pF tF61_1 (pGy hg ?_))
    refine pLo hO 0 (.int _ _) tA3 (pGy hg ?_)
    refine pM (.int _ _) (pGy hg ?_)
    refine pBi (pGy hg (bk hk fun v8 hv8 hk => ?_))
    refine pCall (fun _ => f28_run hv8) (pGy hg ?_)
    refine pU ?_
    refine pPf hg (.bool _) ?_
    cases hk; exact pE ⟨_, sh⟩
  ·rintro _ ⟨J, rfl⟩
   refine pE (gn (lck hk (fun hk => ?_) (fun hk => ?_)))
   ·refine lsq (lrg (pA (.bool _) (pE (gn (lrt (gr ?_))))))
    cases hk; exact fin0 hO
   ·refine lsk (gn (wpL_mid (fun S' => ∃  (J : Nat → V) (G : Heap), f29_k1 aP0 c3 = some r ∧ Owns H G [.blk b4 (.cells 5 [iv c3.State, iv c3.Gone, litL m9 0 c3.Been, .bool c3.Shown, iv c3.Timer]), .blk b1 (.cells 5 (cPlan l1 0 l2 m3 l4 m5 aP0))] ∧ S' = ⟨hav [(3, .ptr b1 0), (7, .ptr b4 0)] J, G⟩) ?_ ?_))
    ·refine lsq (lrg (pFL tF61_0 hO 0 (.int _ _) tA3 ?_))
     refine pBi (pE (gn (lck hk (fun hk => ?_) (fun hk => ?_))))
     ·refine lsq (lsq (lrg (pFL tF61_2 hO 0 (.lit _ _ _) tA27 ?_)))
      refine pLen tS27 ?_
      refine pM (.int _ _) (pE (gn (lbl ?_)))
      refine wpL_loopO (F := f29_L3 aP0 c3) (fun s S' => ∃ (J : Nat → V) (G : Heap), Owns H G [.blk b4 (.cells 5 [iv c3.State, iv c3.Gone, litL m9 0 c3.Been, .bool c3.Shown, iv c3.Timer]), .blk b1 (.cells 5 (cPlan l1 0 l2 m3 l4 m5 aP0))] ∧ S' = ⟨hav [(3, .ptr b1 0), (7, .ptr b4 0), (47, litL m9 0 c3.Been), (48, iv (c3.Been.length : Int)), (49, iv s)] J, G⟩) hk ⟨_, _, (pk hO [0, 2]), sh⟩ ?_
      rintro x13 _ y1 ⟨J, G, hO, rfl⟩ hk hx1
      refine lsq (lrg (pBi (pE (gn (lsq (lck hk (fun hk => ?_) (fun hk => ?_)))))))
      ·refine lsk (gn (lsq (lbl (lsq (lrg (bk hk fun c14 hc14 hk => pX hc14 tE27 tZ4 ?_))))))
       refine pLp (.bool _) (rd1 (lm := 0) (off := 0) hc14 tA4) ?_
       refine pA (.bool _) (pE (gn (lsq (lrg ?_))))
       refine pM (.bool _) (pE (gn (lck hk (fun hk => ?_) (fun hk => ?_))))
       ·refine lsq (lrg (pA (.bool _) (pE (gn (lrt (br (gr (gr (br (gr (gr (have hk := lx hx1 hk; ?_))))))))))))
        cases hk; exact fin0 hO
       ·refine lsk (bn (gn (lrg (pBi ?_))))
        refine pM (.int _ _) (pE (gn ?_))
        cases hk; exact ⟨_, rfl, _, _, hO, sh⟩
      ·refine lex (ge (ge (be (gn (have hk := lx hx1 hk; lsq (lrg (pFL tF61_1 hO 0 (.int _ _) tA3 ?_)))))))
       refine pBi (pE (gn (lck hk (fun hk => ?_) (fun hk => ?_))))
       ·refine lsq (lrg (pA (.bool _) (pE (gn (lrt (gr ?_))))))
        cases hk; exact fin0 hO
       ·exact lsk (gn (⟨_, _, hk, hO, sh⟩))
     ·exact lsk (gn (⟨_, _, hk, (pk hO [0, 2]), sh⟩))
    ·rintro _ ⟨J, G, hk, hO, rfl⟩
     refine lsq (lsq (lrg (pA (.int _ _) (pE (gn (lbl ?_))))))
     refine wpL_loopO (F := f29_L2 aP0 c3) (fun s S' => ∃ (J : Nat → V) (G : Heap), Owns H G [.blk b4 (.cells 5 [iv c3.State, iv c3.Gone, litL m9 0 c3.Been, .bool c3.Shown, iv c3.Timer]), .blk b1 (.cells 5 (cPlan l1 0 l2 m3 l4 m5 aP0))] ∧ S' = ⟨hav [(3, .ptr b1 0), (7, .ptr b4 0), (11, iv s)] J, G⟩) hk ⟨_, _, hO, sh⟩ ?_
     rintro x9 _ y1 ⟨J, G, hO, rfl⟩ hk hx1
     refine lsq (lsq (lrg (pM (.int _ _) ?_)))
     refine pFL tF61_1 hO 0 (.int _ _) tA3 ?_
     refine pBi (pE (gn (lck hk (fun hk => ?_) (fun hk => ?_))))
     ·refine lsk (gn (lsq (lbl (lsq (lrg (pFL tF61_2 hO 0 (.lit _ _ _) tA27 ?_))))))
      refine pM (.int _ _) (bk hk fun c10 hc10 hk => ?_)
      refine pX hc10 tE27 tZ4 ?_
      refine pLp (.bool _) (rd1 (lm := 0) (off := 0) hc10 tA4) ?_
      refine pU (pE (gn (lck hk (fun hk => ?_) (fun hk => ?_))))
      ·refine lsq (lrg (pA (.bool _) (pE (gn (lrt (br (gr (gr (br (gr (have hk := lx hx1 hk; ?_)))))))))))
       cases hk; exact fin0 hO
      ·refine lsk (bn (gn (lrg (pM (.int _ _) ?_))))
       refine pBi ?_
       refine pA (.int _ _) (pE (gn ?_))
       cases hk; exact ⟨_, rfl, _, _, hO, sh⟩
     ·refine lex (ge (ge (be (gn (have hk := lx hx1 hk; lsq (lsq (lrg (pFL tF61_0 hO 0 (.int _ _) tA3 ?_))))))))
      refine pBi (pE (gn (lck hk (fun hk => ?_) (fun hk => ?_))))
      ·refine lsq (lrg (pFL tF61_3 hO 0 (.bool _) tA4 ?_))
       refine pM (.bool _) (bk hk fun t11 ht hk => ?_)
       refine wpR_mid (l1 := [_, _, _, _, _, _]) (fun S' => ∃ J, S' = ⟨hav [(81, .bool t11)] J, G⟩) ?_ ?_
       ·refine bc (b := c3.Shown) (fun hg => ?_) (fun hg => ?_)
        ·replace hk := ct hg ht
         refine pGy hg (pF tF61_4 (pGy hg ?_))
         refine pLo hO 0 (.int _ _) tA3 (pGy hg ?_)
         refine pF tF37_4 (pGy hg ?_)
         refine pLo hO 1 (.int _ _) tA3 (pGy hg (bk hk fun v12 hv12 hk => ?_))
         refine pCall (fun _ => f28_run hv12) ?_
         refine pPt hg (.bool _) ?_
         cases hk; exact pE ⟨_, sh⟩
        ·replace hk := cf hg ht
         refine pGn hg (pGn hg (pGn hg (pGn hg (pGn hg (pPf hg (.bool _) ?_)))))
         cases hk; exact pE ⟨_, sh⟩
       ·rintro _ ⟨J, rfl⟩
        refine pA (.bool _) (pE (gn (lrt (gr ?_))))
        cases hk; exact fin0 hO
      ·refine lsk (gn (lsq (lrg (pFL tF61_4 hO 0 (.int _ _) tA3 ?_))))
       refine pBi ?_
       refine pM (.bool _) ?_
       refine wpR_mid (l1 := [_, _, _, _, _, _, _, _, _]) (fun S' => ∃ J, S' = ⟨hav [(7, .ptr b4 0), (94, .bool ((c3.Timer == (0:Int)) && ((c3.State != (0:Int)) || !c3.Shown)))] J, G⟩) ?_ ?_
       ·refine bc (b := (c3.Timer == (0:Int))) (fun hg => ?_) (fun hg => ?_)
        ·refine pGy hg (pF tF61_0 (pGy hg ?_))
         refine pLo hO 0 (.int _ _) tA3 (pGy hg ?_)
         refine pBi (pGy hg ?_)
         refine pM (.bool _) ?_
         refine wpR_mid (l1 := [_, _, _, _]) (fun S' => ∃ J, S' = ⟨hav [(7, .ptr b4 0), (85, .bool (c3.Timer == (0:Int))), (93, .bool ((c3.State != (0:Int)) || !c3.Shown))] J, G⟩) ?_ ?_
         ·refine bc (b := (c3.State != (0:Int))) (fun hg2 => ?_) (fun hg2 => ?_)
          ·refine pGn hg2 (pGn hg2 (pGn hg2 (pGy hg (pPt hg2 (.bool _) ?_))))
           exact pE ⟨_, St.hav _ ⟨rfl, rfl, by rw [hg2]; rfl, trivial⟩⟩
          ·refine pGy hg2 (pF tF61_3 (pGy hg2 ?_))
           refine pLo hO 0 (.bool _) tA4 (pGy hg2 ?_)
           refine pU (pGy hg ?_)
           refine pPf hg2 (.bool _) ?_
           exact pE ⟨_, St.hav _ ⟨rfl, rfl, by rw [hg2]; rfl, trivial⟩⟩
         ·rintro _ ⟨J, rfl⟩
          refine pPt hg (.bool _) ?_
          exact pE ⟨_, St.hav _ ⟨rfl, by rw [hg]; rfl, trivial⟩⟩
        ·refine pGn hg (pGn hg (pGn hg (pGn hg (pGu (pGu (pGu (pGn hg (pPf hg (.bool _) ?_))))))))
         exact pE ⟨_, St.hav _ ⟨rfl, by rw [hg]; rfl, trivial⟩⟩
       ·rintro _ ⟨J, rfl⟩
        refine pM (.bool _) ?_
        refine wpR_mid (l1 := [_, _, _, _, _, _, _, _]) (fun S' => ∃ J, S' = ⟨hav [(103, .bool (((c3.Timer == (0:Int)) && ((c3.State != (0:Int)) || !c3.Shown)) && ((c3.State != (2:Int)) || c3.Shown)))] J, G⟩) ?_ ?_
        ·refine bc (b := ((c3.Timer == (0:Int)) && ((c3.State != (0:Int)) || !c3.Shown))) (fun hg => ?_) (fun hg => ?_)
         ·refine pGy hg (pF tF61_0 (pGy hg ?_))
          refine pLo hO 0 (.int _ _) tA3 (pGy hg ?_)
          refine pBi (pGy hg ?_)
          refine pM (.bool _) ?_
          refine wpR_mid (l1 := [_, _, _]) (fun S' => ∃ J, S' = ⟨hav [(95, .bool ((c3.Timer == (0:Int)) && ((c3.State != (0:Int)) || !c3.Shown))), (102, .bool ((c3.State != (2:Int)) || c3.Shown))] J, G⟩) ?_ ?_
          ·refine bc (b := (c3.State != (2:Int))) (fun hg2 => ?_) (fun hg2 => ?_)
           ·refine pGn hg2 (pGn hg2 (pGy hg (pPt hg2 (.bool _) ?_)))
            exact pE ⟨_, St.hav _ ⟨rfl, by rw [hg2]; rfl, trivial⟩⟩
           ·refine pGy hg2 (pF tF61_3 (pGy hg2 ?_))
            refine pLo hO 0 (.bool _) tA4 (pGy hg ?_)
            refine pPf hg2 (.bool _) ?_
            exact pE ⟨_, St.hav _ ⟨rfl, by rw [hg2]; rfl, trivial⟩⟩
          ·rintro _ ⟨J, rfl⟩
           refine pPt hg (.bool _) ?_
           exact pE ⟨_, St.hav _ ⟨by rw [hg]; rfl, trivial⟩⟩
         ·refine pGn hg (pGn hg (pGn hg (pGn hg (pGu (pGu (pGn hg (pPf hg (.bool _) ?_)))))))
          exact pE ⟨_, St.hav _ ⟨by rw [hg]; rfl, trivial⟩⟩
        ·rintro _ ⟨J, rfl⟩
         refine pA (.bool _) (pE (gn (lrt ?_)))
         cases hk; exact fin0 hO
def f30_L1 (aF0 : Frame) : ((List Bool) × (List Point) × (List Held) × Int) → Option (((List Bool) × (List Point) × (List Held) × Int) ⊕ Frame) := fun s =>
 (bif decide (s.2.2.2 < (aF0.Ways.length : Int)) then ((getI aF0.Ways s.2.2.2).bind fun c17 => ((appB 1 ([] : List Bool) c17.Been).bind fun z20 => ((appB 56 s.2.2.1 [({ State := c17.State, Gone := c17.Gone, Been := z20, Shown := c17.Shown, Timer := c17.Timer } : Held)]).bind fun z26 => some (.inl (s.1, s.2.1, z26, w64 (s.2.2.2 + (1:Int))))))) else ((some ({ Ok := aF0.Ok, Occ := s.1, Points := s.2.1, Ways := s.2.2.1 } : Frame)).map Sum.inr))
def f30 (aF0 : Frame) : Option Frame :=
 ((appB 1 ([] : List Bool) aF0.Occ).bind fun z4 => ((appB 16 ([] : List Point) aF0.Points).bind fun z7 => (loopO (f30_L1 aF0) (z4, z7, ([] : List Held), (0:Int)))))
theorem f30_run {aF0 : Frame} {r : Frame} {l1 l2 l3 m4 : Nat} (hk : f30 aF0 = some r) (hlk : 0 < lk.length := by simp) : ∃ v H1, runL Try.prog hh 30 [.agg (cFrame l1 0 l2 0 l3 m4 aF0)] H lk = some (v, H1) ∧ FreshS H r v H1 := by
 refine run_startR Try.func30 rfl Try.ntmps30 Try.results30 rfl rfl ?_
 have hO := Owns.nil H
 unfold f30 at hk
 refine lsq (lrg (pBox (cs := [_, _, _, _]) hO tZ42 (fun b1 G hO => pNew hO tZ42 t042 (fun b2 G hO => pE (gn (lsq (lrg ?_)))))))
 refine pFL tF42_0 hO 1 (.bool _) tA4 ?_
 refine pBd [_, _, _, _] t042 tP42 (pNew hO tZ42 t042 (fun b3 G hO => ?_))
 refine pSt (xs := [_, _, _, _]) hO 0 tZ42 rfl (fun G hO => pE (gn (lsq (lrg ?_))))
 refine pFL tF42_1 hO 0 (.tl 0 []) tA27 ?_
 refine pFL tF42_1 hO 2 (.lit _ _ _) tA27 ?_
 replace hO := Owns.addTl hO lk.length ([] : List Bool)
 refine bk hk fun z4 hz4 hk => pAp (xs := ([] : List Bool)) hO 0 hz4 (bears_lit _ aF0.Occ) tE27 tZ4 tB4 t04 tE27 rfl (fun o4 G hno4 hO => ?_)
 replace hno4 := hno4 Nz.nil
 refine pF tF42_1 ?_
 have hc6 := own_cells hO (j := 0) rfl
 refine pSt (xs := [_]) hO 1 tZ27 rfl (fun G hO => ?_) (h3 := hc6.1) (h6 := one_cell hc6.2)
 refine pE (gn (lsq (lrg (pFL tF42_2 hO 1 (.tl 0 []) tA39 ?_))))
 refine pFL tF42_2 hO 3 (.lit _ _ _) tA39 ?_
 replace hO := Owns.addTl hO lk.length ([] : List Point)
 refine bk hk fun z7 hz7 hk => pAp (xs := ([] : List Point)) hO 0 hz7 (bears_lit _ aF0.Points) tE39 tZ58 tB58 t058 tE39 rfl (fun o7 G hno7 hO => ?_)
 replace hno7 := hno7 Nz.nil
 refine pF tF42_2 ?_
 have hc9 := own_cells hO (j := 0) rfl
 refine pSt (xs := [_]) hO 2 tZ39 rfl (fun G hO => ?_) (h3 := hc9.1) (h6 := one_cell hc9.2)
 refine pE (gn (lsq (lsq (lrg (pFL tF42_3 hO 4 (.lit _ _ _) tA40 ?_)))))
 refine pLen tS40 ?_
 refine pM (.int _ _) (pE (gn (lbl ?_)))
 refine wpL_loopO (F := f30_L1 aF0) (fun s S' => ∃ (o10 : V) (o12 : V) (o14 : V) (F15 : List Nat) (J : Nat → V) (G : Heap), Nz o10 ∧ Nz o12 ∧ Owns H G [.own o10 lk.length 1 s.1.length (flatL 0 s.1), .own o12 lk.length 2 s.2.1.length (flatL 0 s.2.1), Ap H lk.length F15 s.2.2.1 o14, .blk b3 (.cells 4 [.bool aF0.Ok, o10, o12, o14]), .blk b2 (.cells 4 [.bool false, (.tl 0 []), (.tl 0 []), (.tl 0 [])])] ∧ S' = ⟨hav [(2, .ptr b2 0), (3, .ptr b3 0), (23, litL l3 m4 aF0.Ways), (24, iv (aF0.Ways.length : Int)), (25, iv s.2.2.2)] J, G⟩) hk ⟨o4, o7, (.tl 0 []), [], _, _, hno4, hno7, (Owns.pick (Owns.addAp hO Held lk.length) [2, 1, 0, 3, 4] (by decide) rfl), sh⟩ ?_
 rintro ⟨x10, x12, x14, x16⟩ _ y1 ⟨o10, o12, o14, F15, J, G, hno10, hno12, hO, rfl⟩ hk hx1
 refine lsq (lrg (pBi (pE (gn (lsq (lck hk (fun hk => ?_) (fun hk => ?_)))))))
 ·refine lsk (gn (lsq (lbl (lsq (lrg (bk hk fun c17 hc17 hk => pX hc17 tE40 tZ61 ?_))))))
  refine pLp (.agg [_, _, _, _, _]) (rd2 (lm := m4) (off := 0) hc17 tA61 tZ61) (pNew hO tZ61 t061 (fun b18 G hO => ?_))
  refine pSt (xs := [_, _, _, _, _]) hO 0 tZ61 rfl (fun G hO => pE (gn (lsq (lrg ?_))))
  refine pLs hO 0 [_, _, _, _, _] tA61 tZ61 (pNew hO tZ61 t061 (fun b19 G hO => ?_))
  refine pSt (xs := [_, _, _, _, _]) hO 0 tZ61 rfl (fun G hO => pE (gn (lsq (lrg ?_))))
  refine pBs (ps := []) ([] : List Bool) tE27 tZ4 t04 (emb_nil) ?_
  refine pFL tF61_2 hO 1 (.lit _ _ _) tA27 ?_
  replace hO := Owns.addTl hO lk.length ([] : List Bool)
  refine bk hk fun z20 hz20 hk => pAp (xs := ([] : List Bool)) hO 0 hz20 (bears_lit _ c17.Been) tE27 tZ4 tB4 t04 tE27 rfl (fun o20 G hno20 hO => ?_)
  replace hno20 := hno20 Nz.nil
  refine pF tF61_2 ?_
  have hc22 := own_cells hO (j := 0) rfl
  refine pSt (xs := [_]) hO 1 tZ27 rfl (fun G hO => ?_) (h3 := hc22.1) (h6 := one_cell hc22.2)
  refine pE (gn (lrg (pFL tF42_3 hO 6 o14 tA40 ?_)))
  refine pLs hO 1 [_, _, _, _, _] tA61 tZ61 ?_
  have hc23 := own_cells hO (j := 0) rfl
  refine pBs1 (ce := [iv c17.State, iv c17.Gone, o20, .bool c17.Shown, iv c17.Timer]) tE40 tZ61 t061 rfl rfl (all_c rfl (all_c rfl (all_c hc23.2 (all_c rfl (all_c rfl all_n))))) ?_
  obtain ⟨F25, hO, _⟩ := Owns.promO hO hno20 hlk
  replace hO := (hO.treeMap (p' := fun G => Prom H.length lk.length (GoM.dep Held) (fun G => GoM.tr G (({ State := c17.State, Gone := c17.Gone, Been := z20, Shown := c17.Shown, Timer := c17.Timer } : Held) : Held)) G [iv c17.State, iv c17.Gone, o20, .bool c17.Shown, iv c17.Timer] F25) fun G h => (Prom.pairL (c17.State : Int) rfl (Prom.pairL (c17.Gone : Int) rfl (Prom.pairR (c17.Shown, c17.Timer) rfl (Prom.up (m := GoM.dep Held) rfl h)))))
  have hce24 : ([iv c17.State, iv c17.Gone, o20, .bool c17.Shown, iv c17.Timer] : List V).length = GoT.sz Held ∧ ([iv c17.State, iv c17.Gone, o20, .bool c17.Shown, iv c17.Timer] : List V).all V.isCell = true := ⟨rfl, (all_c rfl (all_c rfl (all_c hc23.2 (all_c rfl (all_c rfl all_n)))))⟩
  refine bk hk fun z26 hz26 hk => pApA hO 4 hz26 hce24.1 hce24.2 tE40 tZ61 tB61 t061 tE40 rfl (fun o26 F27 G hO => ?_)
  refine pF tF42_3 ?_
  have hc28 := ap_cells hO (j := 4) rfl
  refine pSt (xs := [_]) hO 5 tZ40 rfl (fun G hO => ?_) (h3 := hc28.1) (h6 := one_cell hc28.2)
  refine pE (bn (gn (lrg (pBi ?_))))
  refine pM (.int _ _) (pE (gn ?_))
  cases hk; exact ⟨_, rfl, o10, o12, o26, F27, _, _, hno10, hno12, (pk hO [2, 3, 4, 5, 6]), sh⟩
 ·refine lex (ge (ge (be (gn (have hk := lx hx1 hk; lsq (lrg (pLs hO 3 [_, _, _, _] tA42 tZ42 ?_)))))))
  have hc29 := own_cells hO (j := 0) rfl
  have hc30 := own_cells hO (j := 1) rfl
  have hc31 := ap_cells hO (j := 2) rfl
  refine pSt (xs := [_, _, _, _]) hO 4 tZ42 rfl (fun G hO => ?_) (h6 := (all_c rfl (all_c hc29.2 (all_c hc30.2 (all_c hc31.2 all_n)))))
  refine pE (gn (lrt ?_))
  replace hk := Option.some.inj hk; subst hk; exact finThS hO (th_Frame (x := ({ Ok := aF0.Ok, Occ := x10, Points := x12, Ways := x14 } : Frame)) (th_pair (c1 := [_]) (th_bool aF0.Ok) (th_pair (c1 := [_]) (th_own (xs := x10) hno10 hlk 0) (th_pair (c1 := [_]) (th_own (xs := x12) hno12 hlk 0) (th_ap (xs := x14) hlk 0))))) (resS hO 4 [_, _, _, _] tA42 tZ42 resN)
def f47_L2 (aF1 : Frame) (x5 : Int) (c6 : List Turn) : Int → Option (Int ⊕ (Int ⊕ Bool)) := fun s =>
 (bif decide (s < (c6.length : Int)) then ((getI c6 s).bind fun c8 => ((getI aF1.Points c8.Switch).bind fun c10 => ((bif (c10.Want != c8.Lie) then some true else ((getI aF1.Points c8.Switch).bind fun c12 => some (c12.Lies != c8.Lie))).bind fun t11 => (bif t11 then (((some false).map Sum.inr).map Sum.inr) else some (.inl (w64 (s + (1:Int)))))))) else ((some (.inl (w64 (x5 + (1:Int))))).map Sum.inr))
def f47_L4 (aF1 : Frame) (x13 : Int) (c14 : List Int) : Int → Option (Int ⊕ (Int ⊕ Bool)) := fun s =>
 (bif decide (s < (c14.length : Int)) then ((getI c14 s).bind fun c16 => ((getI aF1.Occ c16).bind fun c17 => (bif c17 then (((some false).map Sum.inr).map Sum.inr) else some (.inl (w64 (s + (1:Int))))))) else ((some (.inl (w64 (x13 + (1:Int))))).map Sum.inr))
def f47_L3 (aF1 : Frame) (c3 : Way) : Int → Option (Int ⊕ Bool) := fun s =>
 (bif decide (s < (([c3.Sections, c3.Over] : List (List Int)).length : Int)) then ((getI ([c3.Sections, c3.Over] : List (List Int)) s).bind fun c14 => (loopO (f47_L4 aF1 s c14) ((0:Int)))) else ((some true).map Sum.inr))
def f47_L1 (aF1 : Frame) (c3 : Way) : Int → Option (Int ⊕ Bool) := fun s =>
 (bif decide (s < (([c3.Lies, c3.Flanks] : List (List Turn)).length : Int)) then ((getI ([c3.Lies, c3.Flanks] : List (List Turn)) s).bind fun c6 => (loopO (f47_L2 aF1 s c6) ((0:Int)))) else ((loopO (f47_L3 aF1 c3) ((0:Int))).map Sum.inr))
def f47 (aP0 : Plan) (aF1 : Frame) (aI2 : Int) : Option Bool :=
 ((getI aP0.Ways aI2).bind fun c3 => (loopO (f47_L1 aF1 c3) ((0:Int))))
theorem f47_run {aP0 : Plan} {aF1 : Frame} {aI2 : Int} {r : Bool} {l1 l2 l3 l4 l5 l6 m7 : Nat} (hk : f47 aP0 aF1 aI2 = some r) (hlk : 0 < lk.length := by simp) : runL Try.prog hh 47 [.agg (cPlan l1 0 l2 0 l3 0 aP0), .agg (cFrame l4 0 l5 0 l6 m7 aF1), iv aI2] H lk = some (.bool r, H) := by
 refine run_start Try.func47 rfl Try.ntmps47 Try.results47 rfl rfl fun hO => ?_
 unfold f47 at hk
 refine lsq (lrg (pBox (cs := [_, _, _, _, _]) hO tZ37 (fun b1 G hO => ?_)))
 refine pBox (cs := [_, _, _, _]) hO tZ42 (fun b2 G hO => ?_)
 refine pA (.bool _) (pE (gn (lsq (lrg ?_))))
 refine pFL tF37_2 hO 1 (.lit _ _ _) tA35 ?_
 refine pM (.int _ _) (bk hk fun c3 hc3 hk => ?_)
 refine pX hc3 tE35 tZ89 ?_
 refine pLp (.agg [_, _, _, _, _]) (rd2 (lm := 0) (off := 0) hc3 tA89 tZ89) (pNew hO tZ89 t089 (fun b4 G hO => ?_))
 refine pSt (xs := [_, _, _, _, _]) hO 0 tZ89 rfl (fun G hO => pE (gn (lsq (lsq (lrg ?_)))))
 refine pFL tF89_1 hO 0 (.lit _ _ _) tA87 ?_
 refine pFL tF89_2 hO 0 (.lit _ _ _) tA87 ?_
 refine pBs (ps := [(0, (.lit _ _ _)), (1, (.lit _ _ _))]) ([c3.Lies, c3.Flanks] : List (List Turn)) tE100 tZ87 t087 (emb_cons (embx_lit c3.Lies) (emb_cons (embx_lit c3.Flanks) (emb_nil))) ?_
 refine pLenO (bears_tl ([c3.Lies, c3.Flanks] : List (List Turn))) tS100 ?_
 refine pM (.int _ _) (pE (gn (lbl ?_)))
 refine wpL_loopO (F := f47_L1 aF1 c3) (fun s S' => ∃ (J : Nat → V) (G : Heap), Owns H G [.blk b4 (.cells 5 (cWay 0 0 0 0 0 0 0 0 0 0 c3)), .blk b2 (.cells 4 (cFrame l4 0 l5 0 l6 m7 aF1))] ∧ S' = ⟨hav [(4, .ptr b2 0), (7, .ptr b4 0), (25, (.tl 2 (flatL 0 ([c3.Lies, c3.Flanks] : List (List Turn))))), (26, iv (([c3.Lies, c3.Flanks] : List (List Turn)).length : Int)), (27, iv s)] J, G⟩) hk ⟨_, _, (pk hO [0, 1]), sh⟩ ?_
 rintro x5 _ y1 ⟨J, G, hO, rfl⟩ hk hx1
 refine lsq (lrg (pBi (pE (gn (lsq (lck hk (fun hk => ?_) (fun hk => ?_)))))))
 ·refine lsk (gn (lsq (lbl (lsq (lrg (bk hk fun c6 hc6 hk => pXt hc6 tE100 tZ87 ?_))))))
  refine pLp (.lit _ _ _) (rd1 (lm := 0) (off := 0) hc6 tA87) ?_
  refine pA (.lit _ _ _) (pE (gn (lsq (lrg ?_))))
  refine pM (.lit _ _ _) ?_
  refine pLen tS87 ?_
  refine pM (.int _ _) (pE (gn (lbl ?_)))
  refine wpL_loopO (F := f47_L2 aF1 x5 c6) (fun s S' => ∃ (J : Nat → V) (G : Heap), Owns H G [.blk b4 (.cells 5 (cWay 0 0 0 0 0 0 0 0 0 0 c3)), .blk b2 (.cells 4 (cFrame l4 0 l5 0 l6 m7 aF1))] ∧ S' = ⟨hav [(4, .ptr b2 0), (7, .ptr b4 0), (25, (.tl 2 (flatL 0 ([c3.Lies, c3.Flanks] : List (List Turn))))), (26, iv (([c3.Lies, c3.Flanks] : List (List Turn)).length : Int)), (27, iv x5), (31, litL 0 0 c6), (32, iv (c6.length : Int)), (33, iv s)] J, G⟩) hk ⟨_, _, hO, sh⟩ ?_
  rintro x7 _ y2 ⟨J, G, hO, rfl⟩ hk hx2
  refine lsq (lrg (pBi (pE (gn (lsq (lck hk (fun hk => ?_) (fun hk => ?_)))))))
  ·refine lsk (gn (lsq (lbl (lsq (lrg (bk hk fun c8 hc8 hk => pX hc8 tE87 tZ102 ?_))))))
   refine pLp (.agg [_, _]) (rd2 (lm := 0) (off := 0) hc8 tA102 tZ102) (pNew hO tZ102 t0102 (fun b9 G hO => ?_))
   refine pSt (xs := [_, _]) hO 0 tZ102 rfl (fun G hO => pE (gn (lsq ?_)))
   refine wpL_drw [(0, true), (1, true), (2, true), (3, true), (4, true), (5, true), (6, true), (7, true), (8, true), (9, false), (10, false), (11, true), (12, true), (13, true), (14, true), (15, true), (16, true), (17, true), (18, true), (19, true), (20, false), (21, false)] [_, _, _, _, _, _, _, _, _, _, _, _, _, _, _, _, _, _, _, _, _, _] (by decide +kernel) (by rfl) ?_
   refine pFL tF42_2 hO 2 (.lit _ _ _) tA39 ?_
   refine pFL tF102_0 hO 0 (.int _ _) tA3 (bk hk fun c10 hc10 hk => ?_)
   refine pX hc10 tE39 tZ58 ?_
   refine pF tF58_0 ?_
   refine pLp (.int _ _) (rd1 (lm := 0) (off := 0) hc10 tA3) ?_
   refine pFL tF102_1 hO 0 (.int _ _) tA3 ?_
   refine pBi ?_
   refine pM (.bool _) (bk hk fun t11 ht hk => ?_)
   refine wpR_mid (l1 := [_, _, _, _, _, _, _, _, _, _, _]) (fun S' => ∃ J, S' = ⟨hav [(4, .ptr b2 0), (7, .ptr b4 0), (25, (.tl 2 (flatL 0 ([c3.Lies, c3.Flanks] : List (List Turn))))), (26, iv (([c3.Lies, c3.Flanks] : List (List Turn)).length : Int)), (27, iv x5), (31, litL 0 0 c6), (32, iv (c6.length : Int)), (33, iv x7), (58, .bool t11)] J, G⟩) ?_ ?_
   ·refine bc (b := (c10.Want != c8.Lie)) (fun hg => ?_) (fun hg => ?_)
    ·replace hk := ct hg ht
     refine pGn hg (pGn hg (pGn hg (pGn hg (pGn hg (pGn hg (pGn hg (pGn hg (pGn hg (pGn hg (pPt hg (.bool _) ?_))))))))))
     cases hk; exact pE ⟨_, sh⟩
    ·replace hk := cf hg ht
     refine pGy hg (pF tF42_2 (pGy hg ?_))
     refine pLo hO 2 (.lit _ _ _) tA39 (pGy hg ?_)
     refine pF tF102_0 (pGy hg ?_)
     refine pLo hO 0 (.int _ _) tA3 (pGy hg (bk hk fun c12 hc12 hk => ?_))
     refine pX hc12 tE39 tZ58 (pGy hg ?_)
     refine pF tF58_1 (pGy hg ?_)
     refine pLp (.int _ _) (rd1 (lm := 0) (off := 1) hc12 tA3) (pGy hg ?_)
     refine pF tF102_1 (pGy hg ?_)
     refine pLo hO 0 (.int _ _) tA3 (pGy hg ?_)
     refine pBi ?_
     refine pPf hg (.bool _) ?_
     cases hk; exact pE ⟨_, sh⟩
   ·rintro _ ⟨J, rfl⟩
    refine pE (gn (lck hk (fun hk => ?_) (fun hk => ?_)))
    ·refine lsq (lrg (pA (.bool _) (pE (gn (lrt (br (gr (gr (br (br (gr (gr (br (gr (have hk := lx hx2 hk; have hk := lx hx1 hk; ?_)))))))))))))))
     cases hk; exact fin0 hO
    ·refine lsk (bn (gn (lrg (pBi ?_))))
     refine pM (.int _ _) (pE (gn ?_))
     cases hk; exact ⟨_, rfl, _, _, (pk hO [1, 2]), sh⟩
  ·refine lex (ge (ge (be (bn (gn (have hk := lx hx2 hk; lrg (pBi ?_)))))))
   refine pM (.int _ _) (pE (gn ?_))
   cases hk; exact ⟨_, rfl, _, _, hO, sh⟩
 ·refine lex (ge (ge (be (gn (have hk := lx hx1 hk; lsq (lsq (lrg (pFL tF89_0 hO 0 (.lit _ _ _) tA22 ?_))))))))
  refine pFL tF89_3 hO 0 (.lit _ _ _) tA22 ?_
  refine pBs (ps := [(0, (.lit _ _ _)), (1, (.lit _ _ _))]) ([c3.Sections, c3.Over] : List (List Int)) tE103 tZ22 t022 (emb_cons (embx_lit c3.Sections) (emb_cons (embx_lit c3.Over) (emb_nil))) ?_
  refine pLenO (bears_tl ([c3.Sections, c3.Over] : List (List Int))) tS103 ?_
  refine pM (.int _ _) (pE (gn (lbl ?_)))
  refine wpL_loopO (F := f47_L3 aF1 c3) (fun s S' => ∃ (J : Nat → V) (G : Heap), Owns H G [.blk b2 (.cells 4 (cFrame l4 0 l5 0 l6 m7 aF1))] ∧ S' = ⟨hav [(4, .ptr b2 0), (65, (.tl 2 (flatL 0 ([c3.Sections, c3.Over] : List (List Int))))), (66, iv (([c3.Sections, c3.Over] : List (List Int)).length : Int)), (67, iv s)] J, G⟩) hk ⟨_, _, (pk hO [1]), sh⟩ ?_
  rintro x13 _ y1 ⟨J, G, hO, rfl⟩ hk hx1
  refine lsq (lrg (pBi (pE (gn (lsq (lck hk (fun hk => ?_) (fun hk => ?_)))))))
  ·refine lsk (gn (lsq (lbl (lsq (lrg (bk hk fun c14 hc14 hk => pXt hc14 tE103 tZ22 ?_))))))
   refine pLp (.lit _ _ _) (rd1 (lm := 0) (off := 0) hc14 tA22) ?_
   refine pA (.lit _ _ _) (pE (gn (lsq (lrg ?_))))
   refine pM (.lit _ _ _) ?_
   refine pLen tS22 ?_
   refine pM (.int _ _) (pE (gn (lbl ?_)))
   refine wpL_loopO (F := f47_L4 aF1 x13 c14) (fun s S' => ∃ (J : Nat → V) (G : Heap), Owns H G [.blk b2 (.cells 4 (cFrame l4 0 l5 0 l6 m7 aF1))] ∧ S' = ⟨hav [(4, .ptr b2 0), (65, (.tl 2 (flatL 0 ([c3.Sections, c3.Over] : List (List Int))))), (66, iv (([c3.Sections, c3.Over] : List (List Int)).length : Int)), (67, iv x13), (71, litL 0 0 c14), (72, iv (c14.length : Int)), (73, iv s)] J, G⟩) hk ⟨_, _, hO, sh⟩ ?_
   rintro x15 _ y2 ⟨J, G, hO, rfl⟩ hk hx2
   refine lsq (lrg (pBi (pE (gn (lsq (lck hk (fun hk => ?_) (fun hk => ?_)))))))
   ·refine lsk (gn (lsq (lbl (lsq (lrg (bk hk fun c16 hc16 hk => pX hc16 tE22 tZ3 ?_))))))
    refine pLp (.int _ _) (rd1 (lm := 0) (off := 0) hc16 tA3) ?_
    refine pA (.int _ _) (pE (gn (lsq (lrg ?_))))
    refine pFL tF42_1 hO 0 (.lit _ _ _) tA27 ?_
    refine pM (.int _ _) (bk hk fun c17 hc17 hk => ?_)
    refine pX hc17 tE27 tZ4 ?_
    refine pLp (.bool _) (rd1 (lm := 0) (off := 0) hc17 tA4) (pE (gn (lck hk (fun hk => ?_) (fun hk => ?_))))
    ·refine lsq (lrg (pA (.bool _) (pE (gn (lrt (br (gr (gr (br (br (gr (gr (br (gr (have hk := lx hx2 hk; have hk := lx hx1 hk; ?_)))))))))))))))
     cases hk; exact fin0 hO
    ·refine lsk (bn (gn (lrg (pBi ?_))))
     refine pM (.int _ _) (pE (gn ?_))
     cases hk; exact ⟨_, rfl, _, _, hO, sh⟩
   ·refine lex (ge (ge (be (bn (gn (have hk := lx hx2 hk; lrg (pBi ?_)))))))
    refine pM (.int _ _) (pE (gn ?_))
    cases hk; exact ⟨_, rfl, _, _, hO, sh⟩
  ·refine lex (ge (ge (be (gn (have hk := lx hx1 hk; lsq (lrg (pA (.bool _) (pE (gn (lrt ?_))))))))))
   cases hk; exact fin0 hO
def f77 (aH0 : List Held) (aH0i : Int) : Option (List Held) :=
 (getI aH0 aH0i).bind fun c1 => ((makeB 1 (c1.Been.length : Int)).bind fun m3 => some (aH0.set aH0i.toNat ({ State := 0, Gone := 0, Been := List.replicate m3 (false : Bool), Shown := false, Timer := 0 } : Held)))
theorem f77_run {aH0 : List Held} {aH0i : Int} {r : (List Held)} {b0 : Nat} {vp1 : V} {S0 Fp1 : List Nat} (hk : f77 aH0 aH0i = some r) (hv0 : vp1 = .sl b0 0 aH0.length) (hO : Owns H H [Tree S0 Fp1 aH0 [vp1]]) (hS : ∀ b ∈ S0, unlocked lk b = true) (hlt : ∀ b ∈ S0, b < H.length) (hlo : LkOk lk H.length) (hlk : 0 < lk.length := by simp) : ∃ v H1, runL Try.prog hh 77 [.ptr b0 (aH0i.toNat * 5)] H lk = some (v, H1) ∧ v = .tup [] ∧ ∃ (Fs : List Nat) (Hm : Heap), Sees H Hm (S0) ∧ Owns Hm H1 [Tree S0 Fs r [vp1]] := by
 refine run_startR Try.func77 rfl Try.ntmps77 Try.results77 rfl rfl ?_
 have hFr := Sees.refl H (S0)
 unfold f77 at hk
 refine bk hk fun c1 hc1 hk => lsq (lrg (pM (.ptr _ _) ?_))
 refine pNil ?_
 refine pF tF61_2 ?_
 refine pLT foc_Held_Been hO 0 hv0 hc1 tA27 (fun u2 fs2 hs2 => ?_)
 refine pLenS hs2 tS27 ?_
 refine pA (.int _ _) (pE (gn (lrg ?_)))
 refine pM (.ptr _ _) ?_
 refine pM (.int _ _) (bk hk fun m3 hm3 hk => ?_)
 refine pMk hO hm3 (false : Bool) tE27 tZ4 tB4 t04 (fun b4 G hO => ?_)
 refine pBd [_, _, _, _, _] t061 tP61 ?_
 refine pNil ?_
 replace hO := Owns.treeM hO List.length_replicate
 replace hO := (hO.treeMap (p' := fun G => TrIn G (({ State := 0, Gone := 0, Been := List.replicate m3 (false : Bool), Shown := false, Timer := 0 } : Held) : Held) [iv 0, iv 0, .sl b4 0 m3, .bool false, iv 0] [b4]) fun G h => (TrIn.pairL (0 : Int) (TrIn.pairL (0 : Int) (TrIn.pairR (false, 0) h))))
 refine pSTTr hO 0 hv0 hc1 tZ61 hFr hS rfl (fun H1 G hFr hO => pE ?_)
 replace hk := Option.some.inj hk; subst hk; exact finG ((Fp1 ++ [b4])) hO hFr (relC relT relN) rfl rfl rfl rfl (by first | exact Or.inl rfl | exact Or.inr rfl)
def f57_k2 (x6 : Int) (x7 : List Held) (c8 : Held) : Option (((List Held) × Held × Int) ⊕ Frame) :=
 some (.inl (x7, c8, w64 (x6 + (1:Int))))
def f57_L3 (aW0 : Way) (aF1 : Frame) (aH2i : Int) : ((List Held) × Held) → Option (((List Held) × Held) ⊕ Frame) := fun s =>
 (bif decide (s.2.Gone < (aW0.Sections.length : Int)) then ((getI s.2.Been s.2.Gone).bind fun c21 => ((bif !c21 then some true else ((getI aW0.Sections s.2.Gone).bind fun c24 => ((getI aF1.Occ c24).bind fun c25 => some c25))).bind fun t23 => ((bif t23 then some true else ((bif decide (s.2.Gone < (w64 ((aW0.Sections.length : Int) - (1:Int)))) then ((getI s.2.Been (w64 (s.2.Gone + (1:Int)))).bind fun c30 => some (!c30)) else some false).bind fun t28 => some t28)).bind fun t27 => (bif t27 then ((some ({ Ok := aF1.Ok, Occ := aF1.Occ, Points := aF1.Points, Ways := s.1 } : Frame)).map Sum.inr) else some (.inl (s.1.set aH2i.toNat ({ s.2 with Gone := w64 (s.2.Gone + (1:Int)) }), ({ s.2 with Gone := w64 (s.2.Gone + (1:Int)) } : Held))))))) else (((f77 s.1 aH2i).bind fun z33 => some ({ Ok := aF1.Ok, Occ := aF1.Occ, Points := aF1.Points, Ways := z33 } : Frame)).map Sum.inr))
def f57_L1 (aW0 : Way) (aF1 : Frame) (aH2i : Int) : ((List Held) × Held × Int) → Option (((List Held) × Held × Int) ⊕ Frame) := fun s =>
 (bif decide (s.2.2 < (aW0.Sections.length : Int)) then ((getI aW0.Sections s.2.2).bind fun c10 => ((getI aF1.Occ c10).bind fun c11 => (bif c11 then ((getI s.2.1.Been s.2.2).bind fun c14 => (f57_k2 s.2.2 (s.1.set aH2i.toNat ({ s.2.1 with Been := s.2.1.Been.set s.2.2.toNat true })) ({ s.2.1 with Been := s.2.1.Been.set s.2.2.toNat true } : Held))) else (f57_k2 s.2.2 s.1 s.2.1)))) else ((loopO (f57_L3 aW0 aF1 aH2i) (s.1, s.2.1)).map Sum.inr))
def f57 (aW0 : Way) (aF1 : Frame) (aH2i : Int) : Option Frame :=
 (getI aF1.Ways aH2i).bind fun c1 => (loopO (f57_L1 aW0 aF1 aH2i) (aF1.Ways, c1, (0:Int)))
theorem f57_run {aW0 : Way} {aF1 : Frame} {aH2i : Int} {r : Frame} {l1 l2 l3 l4 l5 : Nat} {q0 b0 : Nat} {vp1 vp2 vp3 : V} {S0 Fp1 Fp2 Fp3 : List Nat} (hk : f57 aW0 aF1 aH2i = some r) (hv0 : vp3 = .sl b0 0 aF1.Ways.length) (hO : Owns H H [.fblk S0 q0 (.cells 4 [.bool aF1.Ok, vp1, vp2, vp3]), Tree S0 Fp1 aF1.Occ [vp1], Tree S0 Fp2 aF1.Points [vp2], Tree S0 Fp3 aF1.Ways [vp3]]) (hS : ∀ b ∈ S0, unlocked lk b = true) (hlt : ∀ b ∈ S0, b < H.length) (hlo : LkOk lk H.length) (hlk : 0 < lk.length := by simp) : ∃ v H1, runL Try.prog hh 57 [.agg (cWay l1 0 l2 0 l3 0 l4 0 l5 0 aW0), .ptr q0 0, .ptr b0 (aH2i.toNat * 5)] H lk = some (v, H1) ∧ v = .tup [] ∧ ∃ (Fs : List Nat × List Nat × List Nat) (Hm : Heap), Sees H Hm (S0) ∧ Owns Hm H1 [.fblk S0 q0 (.cells 4 [.bool r.Ok, vp1, vp2, vp3]), Tree S0 Fs.1 r.Occ [vp1], Tree S0 Fs.2.1 r.Points [vp2], Tree S0 Fs.2.2 r.Ways [vp3]] := by
 refine run_startR Try.func57 rfl Try.ntmps57 Try.results57 rfl rfl ?_
 have hFr := Sees.refl H (S0)
 unfold f57 at hk
 have hq := (List.getElem?_eq_some_iff.1 (hO.getF (k := 0) rfl).1).1
 refine bk hk fun c1 hc1 hk => lsq (lrg (pBox (cs := [_, _, _, _, _]) hO tZ89 (fun b2 G hO => pE (gn (lsq (lrg ?_))))))
 refine pFL tF89_0 hO 0 (.lit _ _ _) tA22 ?_
 refine pLen tS22 ?_
 refine pA (.int _ _) (pE (gn (lsq (lsq (lrg ?_)))))
 refine pFL tF89_0 hO 0 (.lit _ _ _) tA22 ?_
 refine pLen tS22 ?_
 refine pM (.int _ _) (pE (gn (lbl ?_)))
 refine wpL_loopO (F := f57_L1 aW0 aF1 aH2i) (fun s S' => ∃ (J : Nat → V) (G : Heap) (H1 : Heap), getI s.1 aH2i = some s.2.1 ∧ vp3 = .sl b0 0 s.1.length ∧ Sees H H1 S0 ∧ Owns H1 G [.blk b2 (.cells 5 (cWay l1 0 l2 0 l3 0 l4 0 l5 0 aW0)), .fblk S0 q0 (.cells 4 [.bool aF1.Ok, vp1, vp2, vp3]), Tree S0 Fp1 aF1.Occ [vp1], Tree S0 Fp2 aF1.Points [vp2], Tree S0 Fp3 s.1 [vp3]] ∧ S' = ⟨hav [(1, .ptr q0 0), (2, .ptr b0 (aH2i.toNat * 5)), (3, .ptr b2 0), (6, iv (aW0.Sections.length : Int)), (14, litL l1 0 aW0.Sections), (15, iv (aW0.Sections.length : Int)), (16, iv s.2.2)] J, G⟩) hk ⟨_, _, _, hc1, hv0, hFr, hO, sh⟩ ?_
 rintro ⟨x3, c4, x6⟩ _ y1 ⟨J, G, H1, hc4, hv5, hFr, hO, rfl⟩ hk hx1
 refine lsq (lrg (pBi (pE (gn (lsq (lck hk (fun hk => ?_) (fun hk => ?_)))))))
 ·refine lsk (gn (wpL_mid (fun S' => ∃ (x7 : List Held) (c8 : Held) (J : Nat → V) (G : Heap) (H1 : Heap), f57_k2 x6 x7 c8 = some y1 ∧ getI x7 aH2i = some c8 ∧ vp3 = .sl b0 0 x7.length ∧ Sees H H1 S0 ∧ Owns H1 G [.blk b2 (.cells 5 (cWay l1 0 l2 0 l3 0 l4 0 l5 0 aW0)), .fblk S0 q0 (.cells 4 [.bool aF1.Ok, vp1, vp2, vp3]), Tree S0 Fp1 aF1.Occ [vp1], Tree S0 Fp2 aF1.Points [vp2], Tree S0 Fp3 x7 [vp3]] ∧ S' = ⟨hav [(1, .ptr q0 0), (2, .ptr b0 (aH2i.toNat * 5)), (3, .ptr b2 0), (6, iv (aW0.Sections.length : Int)), (14, litL l1 0 aW0.Sections), (15, iv (aW0.Sections.length : Int)), (16, iv x6)] J, G⟩) ?_ ?_))
  ·refine lbl (lsq (lrg (pM (.int _ _) (bk hk fun c10 hc10 hk => ?_))))
   refine pX hc10 tE22 tZ3 ?_
   refine pLp (.int _ _) (rd1 (lm := 0) (off := 0) hc10 tA3) ?_
   refine pA (.int _ _) ?_
   refine pA (.int _ _) (pE (gn (lsq (lrg ?_))))
   refine pM (.ptr _ _) ?_
   refine pNil ?_
   refine pF tF42_1 ?_
   refine pLr hO 1 vp1 tA27 ?_
   refine pM (.int _ _) (bk hk fun c11 hc11 hk => ?_)
   refine pXT hO 2 hc11 tE27 tZ4 (fun b12 hb12 => ?_)
   refine pLTv (Foc.all (α := Bool)) (.bool _) hO 2 hb12 hc11 tA4 (pE (gn (lck hk (fun hk => ?_) (fun hk => ?_))))
   ·refine lrg (pM (.ptr _ _) ?_)
    refine pNil ?_
    refine pF tF61_2 ?_
    refine pLT foc_Held_Been hO 4 hv5 hc4 tA27 (fun u13 fs13 hs13 => ?_)
    refine pM (.int _ _) (bk hk fun c14 hc14 hk => ?_)
    refine pXS hs13 hc14 tE27 tZ4 (fun b15 hb15 => ?_)
    refine pSXr (y' := true) hO 4 hs13 hb15 hc14 tZ4 (fun _ => ⟨rfl, rfl⟩) hFr hS rfl (fun H1 G hFr hO => ?_)
    replace hO : Owns H1 G [.blk b2 (.cells 5 (cWay l1 0 l2 0 l3 0 l4 0 l5 0 aW0)), .fblk S0 q0 (.cells 4 [.bool aF1.Ok, vp1, vp2, vp3]), Tree S0 Fp1 aF1.Occ [vp1], Tree S0 Fp2 aF1.Points [vp2], Tree S0 Fp3 (x3.set aH2i.toNat ({ c4 with Been := c4.Been.set x6.toNat true })) [vp3]] := hO
    have hc_16 := getI_set hc4 ({ c4 with Been := c4.Been.set x6.toNat true } : Held)
    have hv_16 := sl_set (j := aH2i.toNat) (y := ({ c4 with Been := c4.Been.set x6.toNat true } : Held)) hv5
    exact pE (bn (gn (⟨x3.set aH2i.toNat ({ c4 with Been := c4.Been.set x6.toNat true }), ({ c4 with Been := c4.Been.set x6.toNat true } : Held), _, _, _, hk, hc_16, hv_16, hFr, hO, sh⟩)))
   ·exact lsk (bn (gn (⟨x3, c4, _, _, _, hk, hc4, hv5, hFr, hO, sh⟩)))
  ·rintro _ ⟨x7, c8, J, G, H1, hk, hc8, hv9, hFr, hO, rfl⟩
   refine lrg (pBi ?_)
   refine pM (.int _ _) (pE (gn ?_))
   cases hk; exact ⟨_, rfl, _, _, _, hc8, hv9, hFr, hO, sh⟩
 ·refine lex (ge (ge (be (gn (have hk := lx hx1 hk; lsq (lbl (wpL_loopO (F := f57_L3 aW0 aF1 aH2i) (fun s S' => ∃ (J : Nat → V) (G : Heap) (H1 : Heap), getI s.1 aH2i = some s.2 ∧ vp3 = .sl b0 0 s.1.length ∧ Sees H H1 S0 ∧ Owns H1 G [.blk b2 (.cells 5 (cWay l1 0 l2 0 l3 0 l4 0 l5 0 aW0)), .fblk S0 q0 (.cells 4 [.bool aF1.Ok, vp1, vp2, vp3]), Tree S0 Fp1 aF1.Occ [vp1], Tree S0 Fp2 aF1.Points [vp2], Tree S0 Fp3 s.1 [vp3]] ∧ S' = ⟨hav [(1, .ptr q0 0), (2, .ptr b0 (aH2i.toNat * 5)), (3, .ptr b2 0), (6, iv (aW0.Sections.length : Int))] J, G⟩) hk ⟨_, _, _, hc4, hv5, hFr, hO, sh⟩ ?_)))))))
  rintro ⟨x17, c18⟩ _ y1 ⟨J, G, H1, hc18, hv19, hFr, hO, rfl⟩ hk hx1
  refine lsq (lsq (lrg (pM (.ptr _ _) ?_)))
  refine pNil ?_
  refine pF tF61_1 ?_
  refine pLTv foc_Held_Gone (.int _ _) hO 4 hv19 hc18 tA3 ?_
  refine pM (.int _ _) ?_
  refine pBi (pE (gn (lck hk (fun hk => ?_) (fun hk => ?_))))
  ·refine lsk (gn (lbl (lsq (lrg (pM (.ptr _ _) ?_)))))
   refine pNil ?_
   refine pF tF61_1 ?_
   refine pLTv foc_Held_Gone (.int _ _) hO 4 hv19 hc18 tA3 ?_
   refine pA (.int _ _) (pE (gn (lsq (lsq ?_))))
   refine wpL_drw [(0, false), (1, false), (2, false), (3, true), (4, true), (5, false), (6, true), (7, false), (8, false), (9, true), (10, true), (11, true), (12, true), (13, true), (14, true), (15, true), (16, true), (17, true), (18, false), (19, true), (20, false), (21, false), (22, false), (23, false), (24, false), (25, false), (26, false), (27, false), (28, false), (29, false), (30, true), (31, true), (32, true), (33, false), (34, true), (35, false), (36, false), (37, false)] [_, _, _, _, _, _, _, _, _, _, _, _, _, _, _, _, _, _, _, _, _, _, _, _, _, _, _, _, _, _, _, _, _, _, _, _, _, _] (by decide +kernel) (by rfl) ?_
   refine pM (.ptr _ _) ?_
   refine pNil ?_
   refine pF tF61_2 ?_
   refine pLT foc_Held_Been hO 4 hv19 hc18 tA27 (fun u20 fs20 hs20 => ?_)
   refine pM (.int _ _) (bk hk fun c21 hc21 hk => ?_)
   refine pXS hs20 hc21 tE27 tZ4 (fun b22 hb22 => ?_)
   refine pLXS (.bool _) hs20 hb22 hc21 tA4 ?_
   refine pU ?_
   refine pM (.bool _) (bk hk fun t23 ht hk => ?_)
   refine wpR_mid (l1 := [_, _, _, _, _, _, _, _, _, _, _, _]) (fun S' => ∃ J, S' = ⟨hav [(1, .ptr q0 0), (2, .ptr b0 (aH2i.toNat * 5)), (3, .ptr b2 0), (6, iv (aW0.Sections.length : Int)), (9, iv c18.Gone), (65, .bool t23)] J, G⟩) ?_ ?_
   ·refine bc (b := !c21) (fun hg => ?_) (fun hg => ?_)
    ·replace hk := ct hg ht
     refine pGn hg (pGn hg (pGn hg (pGn hg (pGn hg (pGn hg (pGn hg (pGn hg (pGn hg (pGn hg (pGn hg (pPt hg (.bool _) ?_)))))))))))
     cases hk; exact pE ⟨_, sh⟩
    ·replace hk := cf hg ht
     refine pGy hg (pM (.ptr _ _) (pGy hg ?_))
     refine pNil (pGy hg ?_)
     refine pF tF42_1 (pGy hg ?_)
     refine pLr hO 1 vp1 tA27 (pGy hg ?_)
     refine pF tF89_0 (pGy hg ?_)
     refine pLo hO 0 (.lit _ _ _) tA22 (pGy hg ?_)
     refine pM (.int _ _) (pGy hg (bk hk fun c24 hc24 hk => ?_))
     refine pX hc24 tE22 tZ3 (pGy hg ?_)
     refine pLp (.int _ _) (rd1 (lm := 0) (off := 0) hc24 tA3) (pGy hg (bk hk fun c25 hc25 hk => ?_))
     refine pXT hO 2 hc25 tE27 tZ4 (fun b26 hb26 => pGy hg ?_)
     refine pLTv (Foc.all (α := Bool)) (.bool _) hO 2 hb26 hc25 tA4 ?_
     refine pPf hg (.bool _) ?_
     cases hk; exact pE ⟨_, sh⟩
   ·rintro _ ⟨J, rfl⟩
    refine pM (.bool _) (bk hk fun t27 ht hk => ?_)
    refine wpR_mid (l1 := [_, _, _, _, _, _, _, _, _, _, _, _, _, _, _, _]) (fun S' => ∃ J, S' = ⟨hav [(1, .ptr q0 0), (2, .ptr b0 (aH2i.toNat * 5)), (3, .ptr b2 0), (6, iv (aW0.Sections.length : Int)), (82, .bool t27)] J, G⟩) ?_ ?_
    ·refine bc (b := t23) (fun hg => ?_) (fun hg => ?_)
     ·replace hk := ct hg ht
      refine pGn hg (pGn hg (pGn hg (pGn hg (pGn hg (pGu (pGu (pGu (pGu (pGu (pGu (pGu (pGu (pGu (pGn hg (pPt hg (.bool _) ?_)))))))))))))))
      cases hk; exact pE ⟨_, sh⟩
     ·replace hk := cf hg ht
      refine pGy hg (pM (.int _ _) (pGy hg ?_))
      refine pM (.int _ _) (pGy hg ?_)
      refine pBi (pGy hg ?_)
      refine pBi (pGy hg ?_)
      refine pM (.bool _) (bk hk fun t28 ht hk => ?_)
      refine wpR_mid (l1 := [_, _, _, _, _, _, _, _, _, _]) (fun S' => ∃ J, S' = ⟨hav [(1, .ptr q0 0), (2, .ptr b0 (aH2i.toNat * 5)), (3, .ptr b2 0), (6, iv (aW0.Sections.length : Int)), (66, .bool t23), (81, .bool t28)] J, G⟩) ?_ ?_
      ·refine bc (b := decide (c18.Gone < (w64 ((aW0.Sections.length : Int) - (1:Int))))) (fun hg2 => ?_) (fun hg2 => ?_)
       ·replace hk := ct hg2 ht
        refine pGy hg2 (pM (.ptr _ _) (pGy hg2 ?_))
        refine pNil (pGy hg2 ?_)
        refine pF tF61_2 (pGy hg2 ?_)
        refine pLT foc_Held_Been hO 4 hv19 hc18 tA27 (fun u29 fs29 hs29 => pGy hg2 ?_)
        refine pM (.int _ _) (pGy hg2 ?_)
        refine pBi (pGy hg2 (bk hk fun c30 hc30 hk => ?_))
        refine pXS hs29 hc30 tE27 tZ4 (fun b31 hb31 => pGy hg2 ?_)
        refine pLXS (.bool _) hs29 hb31 hc30 tA4 (pGy hg2 ?_)
        refine pU (pGy hg ?_)
        refine pPt hg2 (.bool _) ?_
        cases hk; exact pE ⟨_, sh⟩
       ·replace hk := cf hg2 ht
        refine pGn hg2 (pGn hg2 (pGn hg2 (pGn hg2 (pGn hg2 (pGn hg2 (pGn hg2 (pGn hg2 (pGn hg2 (pGy hg (pPf hg2 (.bool _) ?_))))))))))
        cases hk; exact pE ⟨_, sh⟩
      ·rintro _ ⟨J, rfl⟩
       refine pPf hg (.bool _) ?_
       cases hk; exact pE ⟨_, sh⟩
    ·rintro _ ⟨J, rfl⟩
     refine pE (gn (lck hk (fun hk => ?_) (fun hk => ?_)))
     ·refine lrt (gr (br (gr (br (gr (have hk := lx hx1 hk; ?_))))))
      replace hk := Option.some.inj hk; subst hk; exact finG (Fp1, Fp2, Fp3) (pk hO [1, 2, 3, 4]) hFr (relC (relB hq) (relC relT (relC relT (relC relT relN)))) rfl rfl rfl rfl (by first | exact Or.inl rfl | exact Or.inr rfl)
     ·refine lsk (gn (lrg (pM (.ptr _ _) ?_)))
      refine pNil ?_
      refine pF tF61_1 ?_
      refine pLTv foc_Held_Gone (.int _ _) hO 4 hv19 hc18 tA3 ?_
      refine pBi ?_
      refine pNil ?_
      refine pF tF61_1 ?_
      refine pSTr foc_Held_Gone (y' := (w64 (c18.Gone + (1:Int)))) hO 4 hv19 hc18 tZ3 (fun _ => ⟨rfl, rfl⟩) hFr hS rfl (fun H1 G hFr hO => ?_)
      have hc_32 := getI_set hc18 ({ c18 with Gone := w64 (c18.Gone + (1:Int)) } : Held)
      have hv_32 := sl_set (j := aH2i.toNat) (y := ({ c18 with Gone := w64 (c18.Gone + (1:Int)) } : Held)) hv19
      refine pE (bn (gn ?_))
      cases hk; exact ⟨_, rfl, _, _, _, hc_32, hv_32, hFr, hO, sh⟩
  ·refine lex (ge (ge (be (gn (have hk := lx hx1 hk; lrg (pM (.ptr _ _) ?_))))))
   replace hO := (Owns.pick hO [4, 0, 1, 2, 3] (by decide) rfl : Owns H1 G ([Tree S0 Fp3 x17 [vp3]] ++ [.blk b2 (.cells 5 (cWay l1 0 l2 0 l3 0 l4 0 l5 0 aW0)), .fblk S0 q0 (.cells 4 [.bool aF1.Ok, vp1, vp2, vp3]), Tree S0 Fp1 aF1.Occ [vp1], Tree S0 Fp2 aF1.Points [vp2]]))
   refine bk hk fun z33 hz33 hk => pCGrd (rs0 := [Tree S0 Fp3 x17 [vp3]]) (rs1 := fun (Fs34 : List Nat) => [Tree S0 Fs34 z33 [vp3]]) (rest := [.blk b2 (.cells 5 (cWay l1 0 l2 0 l3 0 l4 0 l5 0 aW0)), .fblk S0 q0 (.cells 4 [.bool aF1.Ok, vp1, vp2, vp3]), Tree S0 Fp1 aF1.Occ [vp1], Tree S0 Fp2 aF1.Points [vp2]]) (S := (Fp3 ++ [])) hO hFr hS hlo (nums_S rfl) (nums_S' rfl) (inC rfl inN) (fun hl1 hlt1 hun1 ho1 => f77_run hz33 hv19 ho1 hun1 hlt1 hl1) (fun _ => (inC rfl inN)) (fun Fs34 H1 G hFr hO => pE ?_)
   replace hk := Option.some.inj hk; subst hk; exact finG (Fp1, Fp2, Fs34) (pk hO [2, 3, 4, 0]) hFr (relC (relB hq) (relC relT (relC relT (relC relT relN)))) rfl rfl rfl rfl (by first | exact Or.inl rfl | exact Or.inr rfl)
def f31_k2 (x9 : Int) (x10 : Bool) (x11 : List Bool) (x13 : List Point) (x15 : List Held) : Option ((Bool × (List Bool) × (List Point) × (List Held) × Int) ⊕ Frame) :=
 some (.inl (x10, x11, x13, x15, w64 (x9 + (1:Int))))
def f31_k4 (x2 : Bool) (x3 : List Bool) (x5 : List Point) (x9 : Int) (c19 : Way) (x29 : List Held) (c31 : Held) : Option ((Bool × (List Bool) × (List Point) × (List Held) × Int) ⊕ Frame) :=
 (bif (c31.State == (4:Int)) then ((f57 c19 ({ Ok := x2, Occ := x3, Points := x5, Ways := x29 } : Frame) x9).bind fun z33 => (f31_k2 x9 z33.Ok z33.Occ z33.Points z33.Ways)) else (f31_k2 x9 x2 x3 x5 x29))
def f31_k3 (aP0 : Plan) (x2 : Bool) (x3 : List Bool) (x5 : List Point) (x9 : Int) (c19 : Way) (x23 : List Held) (c25 : Held) : Option ((Bool × (List Bool) × (List Point) × (List Held) × Int) ⊕ Frame) :=
 (bif ((c25.State == (1:Int)) || (c25.State == (2:Int))) then ((f47 aP0 ({ Ok := x2, Occ := x3, Points := x5, Ways := x23.set x9.toNat ({ c25 with State := (1:Int) }) } : Frame) x9).bind fun v36 => (bif v36 then (f31_k4 x2 x3 x5 x9 c19 (((x23.set x9.toNat ({ c25 with State := (1:Int) })).set x9.toNat ({ ({ c25 with State := (1:Int) } : Held) with State := (2:Int) })).set x9.toNat ({ ({ ({ c25 with State := (1:Int) } : Held) with State := (2:Int) } : Held) with Shown := true })) ({ ({ ({ c25 with State := (1:Int) } : Held) with State := (2:Int) } : Held) with Shown := true } : Held)) else (f31_k4 x2 x3 x5 x9 c19 (x23.set x9.toNat ({ c25 with State := (1:Int) })) ({ c25 with State := (1:Int) } : Held)))) else (f31_k4 x2 x3 x5 x9 c19 x23 c25))
def f31_L1 (aP0 : Plan) (aF1 : Frame) : (Bool × (List Bool) × (List Point) × (List Held) × Int) → Option ((Bool × (List Bool) × (List Point) × (List Held) × Int) ⊕ Frame) := fun s =>
 (bif decide (s.2.2.2.2 < (aF1.Ways.length : Int)) then ((getI s.2.2.2.1 s.2.2.2.2).bind fun c17 => ((getI aP0.Ways s.2.2.2.2).bind fun c19 => (bif (c17.State == (0:Int)) then (f31_k2 s.2.2.2.2 s.1 s.2.1 s.2.2.1 s.2.2.2.1) else ((bif (c17.State != (4:Int)) then ((getI c19.Sections (0:Int)).bind fun c43 => ((getI s.2.1 c43).bind fun c44 => some c44)) else some false).bind fun t42 => (bif t42 then (f31_k3 aP0 s.1 s.2.1 s.2.2.1 s.2.2.2.2 c19 ((s.2.2.2.1.set s.2.2.2.2.toNat ({ c17 with State := (4:Int) })).set s.2.2.2.2.toNat ({ ({ c17 with State := (4:Int) } : Held) with Timer := (0:Int) })) ({ ({ c17 with State := (4:Int) } : Held) with Timer := (0:Int) } : Held)) else (f31_k3 aP0 s.1 s.2.1 s.2.2.1 s.2.2.2.2 c19 s.2.2.2.1 c17)))))) else ((some ({ Ok := s.1, Occ := s.2.1, Points := s.2.2.1, Ways := s.2.2.2.1 } : Frame)).map Sum.inr))
def f31 (aP0 : Plan) (aF1 : Frame) : Option Frame :=
 (loopO (f31_L1 aP0 aF1) (aF1.Ok, aF1.Occ, aF1.Points, aF1.Ways, (0:Int)))
theorem f31_run {aP0 : Plan} {aF1 : Frame} {r : Frame} {l1 l2 l3 : Nat} {q0 : Nat} {vp1 vp2 vp3 : V} {S0 Fp1 Fp2 Fp3 : List Nat} (hk : f31 aP0 aF1 = some r) (hO : Owns H H [.fblk S0 q0 (.cells 4 [.bool aF1.Ok, vp1, vp2, vp3]), Tree S0 Fp1 aF1.Occ [vp1], Tree S0 Fp2 aF1.Points [vp2], Tree S0 Fp3 aF1.Ways [vp3]]) (hS : ∀ b ∈ S0, unlocked lk b = true) (hlt : ∀ b ∈ S0, b < H.length) (hlo : LkOk lk H.length) (hlk : 0 < lk.length := by simp) : ∃ v H1, runL Try.prog hh 31 [.agg (cPlan l1 0 l2 0 l3 0 aP0), .ptr q0 0] H lk = some (v, H1) ∧ v = .tup [] ∧ ∃ (Fs : List Nat × List Nat × List Nat) (Hm : Heap), Sees H Hm (S0) ∧ Owns Hm H1 [.fblk S0 q0 (.cells 4 [.bool r.Ok, vp1, vp2, vp3]), Tree S0 Fs.1 r.Occ [vp1], Tree S0 Fs.2.1 r.Points [vp2], Tree S0 Fs.2.2 r.Ways [vp3]] := by
 refine run_startR Try.func31 rfl Try.ntmps31 Try.results31 rfl rfl ?_
 have hFr := Sees.refl H (S0)
 unfold f31 at hk
 have hq := (List.getElem?_eq_some_iff.1 (hO.getF (k := 0) rfl).1).1
 refine lsq (lrg (pBox (cs := [_, _, _, _, _]) hO tZ37 (fun b1 G hO => pE (gn (lsq (lrg ?_))))))
 refine pM (.ptr _ _) ?_
 refine pNil ?_
 refine pF tF42_3 ?_
 refine pLr hO 1 vp3 tA40 ?_
 refine pLenT hO 4 tS40 ?_
 refine pM (.int _ _) (pE (gn (lbl ?_)))
 refine wpL_loopO (F := f31_L1 aP0 aF1) (fun s S' => ∃ (F4 : List Nat) (F6 : List Nat) (F8 : List Nat) (J : Nat → V) (G : Heap) (H1 : Heap), Sees H H1 S0 ∧ Owns H1 G [.blk b1 (.cells 5 (cPlan l1 0 l2 0 l3 0 aP0)), .fblk S0 q0 (.cells 4 [.bool s.1, vp1, vp2, vp3]), Tree S0 F4 s.2.1 [vp1], Tree S0 F6 s.2.2.1 [vp2], Tree S0 F8 s.2.2.2.1 [vp3]] ∧ S' = ⟨hav [(1, .ptr q0 0), (2, .ptr b1 0), (11, iv (aF1.Ways.length : Int)), (12, iv s.2.2.2.2)] J, G⟩) hk ⟨Fp1, Fp2, Fp3, _, _, _, hFr, hO, sh⟩ ?_
 rintro ⟨x2, x3, x5, x7, x9⟩ _ y1 ⟨F4, F6, F8, J, G, H1, hFr, hO, rfl⟩ hk hx1
 refine lsq (lrg (pBi (pE (gn (lsq (lck hk (fun hk => ?_) (fun hk => ?_)))))))
 ·refine lsk (gn (wpL_mid (fun S' => ∃ (x10 : Bool) (x11 : List Bool) (x13 : List Point) (x15 : List Held) (F12 : List Nat) (F14 : List Nat) (F16 : List Nat) (J : Nat → V) (G : Heap) (H1 : Heap), f31_k2 x9 x10 x11 x13 x15 = some y1 ∧ Sees H H1 S0 ∧ Owns H1 G [.blk b1 (.cells 5 (cPlan l1 0 l2 0 l3 0 aP0)), .fblk S0 q0 (.cells 4 [.bool x10, vp1, vp2, vp3]), Tree S0 F12 x11 [vp1], Tree S0 F14 x13 [vp2], Tree S0 F16 x15 [vp3]] ∧ S' = ⟨hav [(1, .ptr q0 0), (2, .ptr b1 0), (11, iv (aF1.Ways.length : Int)), (12, iv x9)] J, G⟩) ?_ ?_))
  ·refine lbl (lsq (lrg (pM (.int _ _) ?_)))
   refine pA (.int _ _) (pE (gn (lsq (lrg ?_))))
   refine pM (.ptr _ _) ?_
   refine pNil ?_
   refine pF tF42_3 ?_
   refine pLr hO 1 vp3 tA40 ?_
   refine pM (.int _ _) (bk hk fun c17 hc17 hk => ?_)
   refine pXT hO 4 hc17 tE40 tZ61 (fun b18 hb18 => ?_)
   refine pA (.ptr _ _) (pE (gn (lsq (lrg ?_))))
   refine pFL tF37_2 hO 0 (.lit _ _ _) tA35 ?_
   refine pM (.int _ _) (bk hk fun c19 hc19 hk => ?_)
   refine pX hc19 tE35 tZ89 ?_
   refine pLp (.agg [_, _, _, _, _]) (rd2 (lm := 0) (off := 0) hc19 tA89 tZ89) (pNew hO tZ89 t089 (fun b20 G hO => ?_))
   refine pSt (xs := [_, _, _, _, _]) hO 0 tZ89 hFr.1.symm (fun G hO => pE (gn (lsq (lsq (lrg ?_)))))
   refine pM (.ptr _ _) ?_
   refine pNil ?_
   refine pF tF61_0 ?_
   refine pLTv foc_Held_State (.int _ _) hO 5 hb18 hc17 tA3 ?_
   refine pBi (pE (gn (lck hk (fun hk => ?_) (fun hk => ?_))))
   ·exact lex (ge (be (gn (⟨x2, x3, x5, x7, F4, F6, F8, _, _, _, hk, hFr, (pk hO [1, 2, 3, 4, 5]), sh⟩))))
   ·refine lsk (gn (wpL_mid (fun S' => ∃ (x23 : List Held) (c25 : Held) (F21 : List Nat) (F22 : List Nat) (F24 : List Nat) (J : Nat → V) (G : Heap) (H1 : Heap), f31_k3 aP0 x2 x3 x5 x9 c19 x23 c25 = some y1 ∧ getI x23 x9 = some c25 ∧ vp3 = .sl b18 0 x23.length ∧ Sees H H1 S0 ∧ Owns H1 G [.blk b20 (.cells 5 (cWay 0 0 0 0 0 0 0 0 0 0 c19)), .blk b1 (.cells 5 (cPlan l1 0 l2 0 l3 0 aP0)), .fblk S0 q0 (.cells 4 [.bool x2, vp1, vp2, vp3]), Tree S0 F21 x3 [vp1], Tree S0 F22 x5 [vp2], Tree S0 F24 x23 [vp3]] ∧ S' = ⟨hav [(1, .ptr q0 0), (2, .ptr b1 0), (4, iv x9), (5, .ptr b18 (x9.toNat * 5)), (6, .ptr b20 0), (11, iv (aF1.Ways.length : Int)), (12, iv x9)] J, G⟩) ?_ ?_))
    ·refine lsq (wpL_drw [(0, false), (1, false), (2, false), (3, true), (4, false), (5, false), (6, true), (7, true), (8, true), (9, true), (10, true), (11, true), (12, true), (13, true), (14, false), (15, true), (16, false)] [_, _, _, _, _, _, _, _, _, _, _, _, _, _, _, _, _] (by decide +kernel) (by rfl) ?_)
     refine pM (.ptr _ _) ?_
     refine pNil ?_
     refine pF tF61_0 ?_
     refine pLTv foc_Held_State (.int _ _) hO 5 hb18 hc17 tA3 ?_
     refine pBi ?_
     refine pM (.bool _) (bk hk fun t42 ht hk => ?_)
     refine wpR_mid (l1 := [_, _, _, _, _, _, _, _, _, _, _]) (fun S' => ∃ J, S' = ⟨hav [(1, .ptr q0 0), (2, .ptr b1 0), (4, iv x9), (5, .ptr b18 (x9.toNat * 5)), (6, .ptr b20 0), (11, iv (aF1.Ways.length : Int)), (12, iv x9), (47, .bool t42)] J, G⟩) ?_ ?_
     ·refine bc (b := (c17.State != (4:Int))) (fun hg => ?_) (fun hg => ?_)
      ·replace hk := ct hg ht
       refine pGy hg (pM (.ptr _ _) (pGy hg ?_))
       refine pNil (pGy hg ?_)
       refine pF tF42_1 (pGy hg ?_)
       refine pLr hO 2 vp1 tA27 (pGy hg ?_)
       refine pF tF89_0 (pGy hg ?_)
       refine pLo hO 0 (.lit _ _ _) tA22 (pGy hg (bk hk fun c43 hc43 hk => ?_))
       refine pX hc43 tE22 tZ3 (pGy hg ?_)
       refine pLp (.int _ _) (rd1 (lm := 0) (off := 0) hc43 tA3) (pGy hg (bk hk fun c44 hc44 hk => ?_))
       refine pXT hO 3 hc44 tE27 tZ4 (fun b45 hb45 => pGy hg ?_)
       refine pLTv (Foc.all (α := Bool)) (.bool _) hO 3 hb45 hc44 tA4 ?_
       refine pPt hg (.bool _) ?_
       cases hk; exact pE ⟨_, sh⟩
      ·replace hk := cf hg ht
       refine pGn hg (pGn hg (pGn hg (pGn hg (pGn hg (pGn hg (pGn hg (pGn hg (pGn hg (pGn hg (pPf hg (.bool _) ?_))))))))))
       cases hk; exact pE ⟨_, sh⟩
     ·rintro _ ⟨J, rfl⟩
      refine pE (gn (lck hk (fun hk => ?_) (fun hk => ?_)))
      ·refine lsq (lrg (pM (.ptr _ _) ?_))
       refine pNil ?_
       refine pF tF61_0 ?_
       refine pSTr foc_Held_State (y' := (4:Int)) hO 5 hb18 hc17 tZ3 (fun _ => ⟨rfl, rfl⟩) hFr hS rfl (fun H1 G hFr hO => ?_)
       have hc_46 := getI_set hc17 ({ c17 with State := (4:Int) } : Held)
       have hv_46 := sl_set (j := x9.toNat) (y := ({ c17 with State := (4:Int) } : Held)) hb18
       refine pE (gn (lrg (pM (.ptr _ _) ?_)))
       refine pNil ?_
       refine pF tF61_4 ?_
       refine pSTr foc_Held_Timer (y' := (0:Int)) hO 5 hv_46 hc_46 tZ3 (fun _ => ⟨rfl, rfl⟩) hFr hS rfl (fun H1 G hFr hO => ?_)
       have hc_47 := getI_set hc_46 ({ ({ c17 with State := (4:Int) } : Held) with Timer := (0:Int) } : Held)
       have hv_47 := sl_set (j := x9.toNat) (y := ({ ({ c17 with State := (4:Int) } : Held) with Timer := (0:Int) } : Held)) hv_46
       exact pE (gn (⟨(x7.set x9.toNat ({ c17 with State := (4:Int) })).set x9.toNat ({ ({ c17 with State := (4:Int) } : Held) with Timer := (0:Int) }), ({ ({ c17 with State := (4:Int) } : Held) with Timer := (0:Int) } : Held), F4, F6, F8, _, _, _, hk, hc_47, hv_47, hFr, hO, sh⟩))
      ·exact lsk (gn (⟨x7, c17, F4, F6, F8, _, _, _, hk, hc17, hb18, hFr, hO, sh⟩))
    ·rintro _ ⟨x23, c25, F21, F22, F24, J, G, H1, hk, hc25, hv26, hFr, hO, rfl⟩
     refine wpL_mid (fun S' => ∃ (x29 : List Held) (c31 : Held) (F27 : List Nat) (F28 : List Nat) (F30 : List Nat) (J : Nat → V) (G : Heap) (H1 : Heap), f31_k4 x2 x3 x5 x9 c19 x29 c31 = some y1 ∧ getI x29 x9 = some c31 ∧ vp3 = .sl b18 0 x29.length ∧ Sees H H1 S0 ∧ Owns H1 G [.blk b20 (.cells 5 (cWay 0 0 0 0 0 0 0 0 0 0 c19)), .blk b1 (.cells 5 (cPlan l1 0 l2 0 l3 0 aP0)), .fblk S0 q0 (.cells 4 [.bool x2, vp1, vp2, vp3]), Tree S0 F27 x3 [vp1], Tree S0 F28 x5 [vp2], Tree S0 F30 x29 [vp3]] ∧ S' = ⟨hav [(1, .ptr q0 0), (2, .ptr b1 0), (5, .ptr b18 (x9.toNat * 5)), (6, .ptr b20 0), (11, iv (aF1.Ways.length : Int)), (12, iv x9)] J, G⟩) ?_ ?_
     ·refine lsq (lrg (pM (.ptr _ _) ?_))
      refine pNil ?_
      refine pF tF61_0 ?_
      refine pLTv foc_Held_State (.int _ _) hO 5 hv26 hc25 tA3 ?_
      refine pBi ?_
      refine pM (.bool _) ?_
      refine wpR_mid (l1 := [_, _, _, _, _, _]) (fun S' => ∃ J, S' = ⟨hav [(1, .ptr q0 0), (2, .ptr b1 0), (4, iv x9), (5, .ptr b18 (x9.toNat * 5)), (6, .ptr b20 0), (11, iv (aF1.Ways.length : Int)), (12, iv x9), (65, .bool ((c25.State == (1:Int)) || (c25.State == (2:Int))))] J, G⟩) ?_ ?_
      ·refine bc (b := (c25.State == (1:Int))) (fun hg => ?_) (fun hg => ?_)
       ·refine pGn hg (pGn hg (pGn hg (pGn hg (pGn hg (pPt hg (.bool _) ?_)))))
        exact pE ⟨_, St.hav _ ⟨rfl, rfl, rfl, rfl, rfl, rfl, rfl, by rw [hg]; rfl, trivial⟩⟩
       ·refine pGy hg (pM (.ptr _ _) (pGy hg ?_))
        refine pNil (pGy hg ?_)
        refine pF tF61_0 (pGy hg ?_)
        refine pLTv foc_Held_State (.int _ _) hO 5 hv26 hc25 tA3 (pGy hg ?_)
        refine pBi ?_
        refine pPf hg (.bool _) ?_
        exact pE ⟨_, St.hav _ ⟨rfl, rfl, rfl, rfl, rfl, rfl, rfl, by rw [hg]; rfl, trivial⟩⟩
      ·rintro _ ⟨J, rfl⟩
       refine pE (gn (lck hk (fun hk => ?_) (fun hk => ?_)))
       ·refine lsq (lrg (pM (.ptr _ _) ?_))
        refine pNil ?_
        refine pF tF61_0 ?_
        refine pSTr foc_Held_State (y' := (1:Int)) hO 5 hv26 hc25 tZ3 (fun _ => ⟨rfl, rfl⟩) hFr hS rfl (fun H1 G hFr hO => ?_)
        have hc_35 := getI_set hc25 ({ c25 with State := (1:Int) } : Held)
        have hv_35 := sl_set (j := x9.toNat) (y := ({ c25 with State := (1:Int) } : Held)) hv26
        refine pE (gn (lsq (wpL_drw [(0, true), (1, true), (2, true), (3, true), (4, true), (5, false)] [_, _, _, _, _, _] (by decide +kernel) (by rfl) ?_)))
        refine pLs hO 1 [_, _, _, _, _] tA37 tZ37 ?_
        refine pM (.ptr _ _) ?_
        refine pNil ?_
        refine pLrS hO 2 tA42 tZ42 ?_
        refine pM (.int _ _) (bk hk fun v36 hv36 hk => ?_)
        obtain ⟨_, hm37⟩ := ld_tr hO (j := 5) rfl (lk.length + 1) 7
        obtain ⟨_, hm38⟩ := ld_trF hO (j := 4) rfl (lk.length + 1) 7
        obtain ⟨_, hm39⟩ := ld_trF hO (j := 3) rfl (lk.length + 1) 7
        refine pCall (vs := [(.agg [_, _, _, _, _]), (.agg [_, _, _, _]), (.int _ _)]) (caps := []) (fun _ => f47_run hv36) ?_ (h3 := (la_cons rfl (la_cons (ld_agg (ll_cons rfl (ll_cons hm39 (ll_cons hm38 (ll_cons hm37 ll_nil))))) (la_cons rfl la_nil))))
        refine pE (gn (lck hk (fun hk => ?_) (fun hk => ?_)))
        ·refine lsq (lrg (pM (.ptr _ _) ?_))
         refine pNil ?_
         refine pF tF61_0 ?_
         refine pSTr foc_Held_State (y' := (2:Int)) hO 5 hv_35 hc_35 tZ3 (fun _ => ⟨rfl, rfl⟩) hFr hS rfl (fun H1 G hFr hO => ?_)
         have hc_40 := getI_set hc_35 ({ ({ c25 with State := (1:Int) } : Held) with State := (2:Int) } : Held)
         have hv_40 := sl_set (j := x9.toNat) (y := ({ ({ c25 with State := (1:Int) } : Held) with State := (2:Int) } : Held)) hv_35
         refine pE (gn (lrg (pM (.ptr _ _) ?_)))
         refine pNil ?_
         refine pF tF61_3 ?_
         refine pSTr foc_Held_Shown (y' := true) hO 5 hv_40 hc_40 tZ4 (fun _ => ⟨rfl, rfl⟩) hFr hS rfl (fun H1 G hFr hO => ?_)
         have hc_41 := getI_set hc_40 ({ ({ ({ c25 with State := (1:Int) } : Held) with State := (2:Int) } : Held) with Shown := true } : Held)
         have hv_41 := sl_set (j := x9.toNat) (y := ({ ({ ({ c25 with State := (1:Int) } : Held) with State := (2:Int) } : Held) with Shown := true } : Held)) hv_40
         exact pE (gn (⟨((x23.set x9.toNat ({ c25 with State := (1:Int) })).set x9.toNat ({ ({ c25 with State := (1:Int) } : Held) with State := (2:Int) })).set x9.toNat ({ ({ ({ c25 with State := (1:Int) } : Held) with State := (2:Int) } : Held) with Shown := true }), ({ ({ ({ c25 with State := (1:Int) } : Held) with State := (2:Int) } : Held) with Shown := true } : Held), F21, F22, F24, _, _, _, hk, hc_41, hv_41, hFr, hO, sh⟩))
        ·exact lsk (gn (⟨x23.set x9.toNat ({ c25 with State := (1:Int) }), ({ c25 with State := (1:Int) } : Held), F21, F22, F24, _, _, _, hk, hc_35, hv_35, hFr, hO, sh⟩))
       ·exact lsk (gn (⟨x23, c25, F21, F22, F24, _, _, _, hk, hc25, hv26, hFr, hO, sh⟩))
     ·rintro _ ⟨x29, c31, F27, F28, F30, J, G, H1, hk, hc31, hv32, hFr, hO, rfl⟩
      refine lsq (lrg (pM (.ptr _ _) ?_))
      refine pNil ?_
      refine pF tF61_0 ?_
      refine pLTv foc_Held_State (.int _ _) hO 5 hv32 hc31 tA3 ?_
      refine pBi (pE (gn (lck hk (fun hk => ?_) (fun hk => ?_))))
      ·refine lrg (pLs hO 0 [_, _, _, _, _] tA89 tZ89 ?_)
       refine pM (.ptr _ _) ?_
       refine pM (.ptr _ _) ?_
       replace hO := (Owns.pick hO [2, 3, 4, 5, 0, 1] (by decide) rfl : Owns H1 G ([.fblk S0 q0 (.cells 4 [.bool x2, vp1, vp2, vp3]), Tree S0 F27 x3 [vp1], Tree S0 F28 x5 [vp2], Tree S0 F30 x29 [vp3]] ++ [.blk b20 (.cells 5 (cWay 0 0 0 0 0 0 0 0 0 0 c19)), .blk b1 (.cells 5 (cPlan l1 0 l2 0 l3 0 aP0))]))
       refine bk hk fun z33 hz33 hk => pCGrd (rs0 := [.fblk S0 q0 (.cells 4 [.bool x2, vp1, vp2, vp3]), Tree S0 F27 x3 [vp1], Tree S0 F28 x5 [vp2], Tree S0 F30 x29 [vp3]]) (rs1 := fun (Fs34 : List Nat × List Nat × List Nat) => [.fblk S0 q0 (.cells 4 [.bool z33.Ok, vp1, vp2, vp3]), Tree S0 Fs34.1 z33.Occ [vp1], Tree S0 Fs34.2.1 z33.Points [vp2], Tree S0 Fs34.2.2 z33.Ways [vp3]]) (rest := [.blk b20 (.cells 5 (cWay 0 0 0 0 0 0 0 0 0 0 c19)), .blk b1 (.cells 5 (cPlan l1 0 l2 0 l3 0 aP0))]) (S := (q0 :: (F27 ++ (F28 ++ (F30 ++ []))))) hO hFr hS hlo (nums_S rfl) (nums_S' rfl) (inC rfl (inC rfl (inC rfl (inC rfl inN)))) (fun hl1 hlt1 hun1 ho1 => f57_run hz33 hv32 ho1 hun1 hlt1 hl1) (fun _ => (inC rfl (inC rfl (inC rfl (inC rfl inN))))) (fun Fs34 H1 G hFr hO => pE (bn (gn ?_)))
       exact ⟨z33.Ok, z33.Occ, z33.Points, z33.Ways, Fs34.1, Fs34.2.1, Fs34.2.2, _, _, _, hk, hFr, (pk hO [5, 0, 1, 2, 3]), sh⟩
      ·exact lsk (bn (gn (⟨x2, x3, x5, x29, F27, F28, F30, _, _, _, hk, hFr, (pk hO [1, 2, 3, 4, 5]), sh⟩)))
  ·rintro _ ⟨x10, x11, x13, x15, F12, F14, F16, J, G, H1, hk, hFr, hO, rfl⟩
   refine lrg (pBi ?_)
   refine pM (.int _ _) (pE (gn ?_))
   cases hk; exact ⟨_, rfl, F12, F14, F16, _, _, _, hFr, hO, sh⟩
 ·refine lex (ge (ge (be (have hk := lx hx1 hk; ?_))))
  replace hk := Option.some.inj hk; subst hk; exact finG (F4, F6, F8) (pk hO [1, 2, 3, 4]) hFr (relC (relB hq) (relC relT (relC relT (relC relT relN)))) rfl rfl rfl rfl (by first | exact Or.inl rfl | exact Or.inr rfl)
end
end Go.Proofs.Ytphpkphklegfeaa.K
