/-
 The functions that FnExactTurned reaches, as typed Lean functions, and that the interpreter computes them. Part 1 of 2. No conditions.
-/
import Derived.Test.YtblodpbcinkehaaKzq
import Derived.Test.YtblodpbcinkehaaProg
set_option linter.unusedVariables false
set_option linter.unusedSimpArgs false
set_option maxRecDepth 100000
namespace Go.Proofs.Ytblodpbcinkehaa.K
noncomputable section
variable {H : Heap} {lk : Lk}
def hh : Hints := { modes := fun k => bif Nat.beq k 12 || Nat.beq k 13 || Nat.beq k 32 || Nat.beq k 33 || Nat.beq k 34 || Nat.beq k 53 then [.exact] else (bif Nat.beq k 27 then [.lent, .part] else []), thaw := fun k => Nat.beq k 7 || Nat.beq k 8 || Nat.beq k 9 || Nat.beq k 21 || Nat.beq k 22 || Nat.beq k 24 || Nat.beq k 27 || Nat.beq k 42 || Nat.beq k 59, grow := fun k => false, keep := fun k => Nat.beq k 22 }
structure Piece where
 Name : ByteArray
 Len : Int
 Speed : Int
 Brake : Int
instance : GoT Piece := ⟨4, by decide, fun l x => GoT.encL l x.Name ++ (GoT.encL l x.Len ++ (GoT.encL l x.Speed ++ (GoT.encL l x.Brake))), fun x => by simp only [List.length_append, GoT.len]; rfl, fun x h => by simp only [cleanL_append, GoT.cleanM _ h]; rfl, fun x => by simp only [List.all_append, GoT.cell]; rfl⟩
instance : GoM Piece := GoM.via (fun x => (x.Name, x.Len, x.Speed, x.Brake) : Piece → ByteArray × Int × Int × Int) rfl fun _ _ => rfl
instance : GoFl Piece := ⟨fun G x => GoFl.fl (α := ByteArray × Int × Int × Int) G (x.Name, x.Len, x.Speed, x.Brake), fun l x => GoFl.lev (α := ByteArray × Int × Int × Int) l (x.Name, x.Len, x.Speed, x.Brake), GoFl.pos (α := ByteArray × Int × Int × Int)⟩
theorem foc_Piece_Name : Foc Piece ByteArray (fun x => x.Name) (fun x y => { x with Name := y }) 0 := Foc.via (α := Piece) (f := (fun x => (x.Name, x.Len, x.Speed, x.Brake) : Piece → ByteArray × Int × Int × Int)) (hz := rfl) (he := fun _ _ => rfl) (Foc.fst) fun _ _ => rfl
theorem foc_Piece_Len : Foc Piece Int (fun x => x.Len) (fun x y => { x with Len := y }) 1 := Foc.via (α := Piece) (f := (fun x => (x.Name, x.Len, x.Speed, x.Brake) : Piece → ByteArray × Int × Int × Int)) (hz := rfl) (he := fun _ _ => rfl) (Foc.comp Foc.snd (Foc.fst)) fun _ _ => rfl
theorem foc_Piece_Speed : Foc Piece Int (fun x => x.Speed) (fun x y => { x with Speed := y }) 2 := Foc.via (α := Piece) (f := (fun x => (x.Name, x.Len, x.Speed, x.Brake) : Piece → ByteArray × Int × Int × Int)) (hz := rfl) (he := fun _ _ => rfl) (Foc.comp Foc.snd (Foc.comp Foc.snd (Foc.fst))) fun _ _ => rfl
theorem foc_Piece_Brake : Foc Piece Int (fun x => x.Brake) (fun x y => { x with Brake := y }) 3 := Foc.via (α := Piece) (f := (fun x => (x.Name, x.Len, x.Speed, x.Brake) : Piece → ByteArray × Int × Int × Int)) (hz := rfl) (he := fun _ _ => rfl) (Foc.comp Foc.snd (Foc.comp Foc.snd (Foc.snd))) fun _ _ => rfl
structure End where
 Piece : Int
 Side : Int
 deriving DecidableEq
instance : GoT End := ⟨2, by decide, fun l x => GoT.encL l x.Piece ++ (GoT.encL l x.Side), fun x => by simp only [List.length_append, GoT.len]; rfl, fun x h => by simp only [cleanL_append, GoT.cleanM _ h]; rfl, fun x => by simp only [List.all_append, GoT.cell]; rfl⟩
instance : GoM End := GoM.via (fun x => (x.Piece, x.Side) : End → Int × Int) rfl fun _ _ => rfl
instance : GoFl End := ⟨fun G x => GoFl.fl (α := Int × Int) G (x.Piece, x.Side), fun l x => GoFl.lev (α := Int × Int) l (x.Piece, x.Side), GoFl.pos (α := Int × Int)⟩
theorem foc_End_Piece : Foc End Int (fun x => x.Piece) (fun x y => { x with Piece := y }) 0 := Foc.via (α := End) (f := (fun x => (x.Piece, x.Side) : End → Int × Int)) (hz := rfl) (he := fun _ _ => rfl) (Foc.fst) fun _ _ => rfl
theorem foc_End_Side : Foc End Int (fun x => x.Side) (fun x y => { x with Side := y }) 1 := Foc.via (α := End) (f := (fun x => (x.Piece, x.Side) : End → Int × Int)) (hz := rfl) (he := fun _ _ => rfl) (Foc.snd) fun _ _ => rfl
instance : GoP End := ⟨fun x => .agg ((GoT.encL 0) x), fun _ => rfl⟩
theorem fitEndK : KeyFit (.many [.i, .i]) End := fun a b => by
 have h : eqKey (.many [.i, .i]) (GoP.pv a) (GoP.pv b) = some ((a.Piece == b.Piece) && ((a.Side == b.Side) && (true))) := by
  show (if ((GoT.encL 0) a).length = 2 ∧ ((GoT.encL 0) b).length = 2 then eqCells _ ((GoT.encL 0) a) ((GoT.encL 0) b) else none) = _
  rw [if_pos ⟨GoT.len a, GoT.len b⟩]
  exact eqc (eqi _ _ _) (eqc (eqi _ _ _) (rfl))
 rw [h]
 congr 1
 cases a; cases b
 rw [Bool.eq_iff_iff]
 simp
structure Joint where
 Kind : Int
 Name : ByteArray
 Ends : List End
instance : GoT Joint := ⟨3, by decide, fun l x => GoT.encL l x.Kind ++ (GoT.encL l x.Name ++ (GoT.encL l x.Ends)), fun x => by simp only [List.length_append, GoT.len]; rfl, fun x h => by simp only [cleanL_append, GoT.cleanM _ h]; rfl, fun x => by simp only [List.all_append, GoT.cell]; rfl⟩
instance : GoM Joint := GoM.via (fun x => (x.Kind, x.Name, x.Ends) : Joint → Int × ByteArray × (List End)) rfl fun _ _ => rfl
theorem foc_Joint_Kind : Foc Joint Int (fun x => x.Kind) (fun x y => { x with Kind := y }) 0 := Foc.via (α := Joint) (f := (fun x => (x.Kind, x.Name, x.Ends) : Joint → Int × ByteArray × (List End))) (hz := rfl) (he := fun _ _ => rfl) (Foc.fst) fun _ _ => rfl
theorem foc_Joint_Name : Foc Joint ByteArray (fun x => x.Name) (fun x y => { x with Name := y }) 1 := Foc.via (α := Joint) (f := (fun x => (x.Kind, x.Name, x.Ends) : Joint → Int × ByteArray × (List End))) (hz := rfl) (he := fun _ _ => rfl) (Foc.comp Foc.snd (Foc.fst)) fun _ _ => rfl
theorem foc_Joint_Ends : Foc Joint (List End) (fun x => x.Ends) (fun x y => { x with Ends := y }) 2 := Foc.via (α := Joint) (f := (fun x => (x.Kind, x.Name, x.Ends) : Joint → Int × ByteArray × (List End))) (hz := rfl) (he := fun _ _ => rfl) (Foc.comp Foc.snd (Foc.snd)) fun _ _ => rfl
theorem th_Joint {H : Heap} {d n : Nat} {rs rs1 : List Res} {cs : List V} {x : Joint} (h : ThV n H d rs cs (x.Kind, x.Name, x.Ends) rs1) : ThV n H d rs cs x rs1 := h
theorem ls_Joint {H G : Heap} {rs : List Res} {S F : List Nat} {x : Joint} {cs : List V} {j : Nat} (hO : Owns H G rs) (hj : rs[j]? = some (Tree S F x cs)) (lv n : Nat) (hn : Nat.ble (GoM.dep Joint) n = true := by rfl) : ∃ M, lendV lv G (n + 1) (.agg cs) = some (.agg [.int .i64 x.Kind, .str x.Name, litL lv 0 x.Ends], M) := by
 have h := ld_trS hO hj lv n hn
 have e : GoT.encL lv x = [.int .i64 x.Kind, .str x.Name, litL lv 0 x.Ends] := by
  show ([.int .i64 x.Kind, .str x.Name, litL lv lv x.Ends] : List V) = _
  simp only [litL, flat_lv]
 rwa [e] at h
structure Net where
 Pieces : List Piece
 Joints : List Joint
instance : GoT Net := ⟨2, by decide, fun l x => GoT.encL l x.Pieces ++ (GoT.encL l x.Joints), fun x => by simp only [List.length_append, GoT.len]; rfl, fun x h => by simp only [cleanL_append, GoT.cleanM _ h]; rfl, fun x => by simp only [List.all_append, GoT.cell]; rfl⟩
instance : GoM Net := GoM.via (fun x => (x.Pieces, x.Joints) : Net → (List Piece) × (List Joint)) rfl fun _ _ => rfl
theorem foc_Net_Pieces : Foc Net (List Piece) (fun x => x.Pieces) (fun x y => { x with Pieces := y }) 0 := Foc.via (α := Net) (f := (fun x => (x.Pieces, x.Joints) : Net → (List Piece) × (List Joint))) (hz := rfl) (he := fun _ _ => rfl) (Foc.fst) fun _ _ => rfl
theorem foc_Net_Joints : Foc Net (List Joint) (fun x => x.Joints) (fun x y => { x with Joints := y }) 1 := Foc.via (α := Net) (f := (fun x => (x.Pieces, x.Joints) : Net → (List Piece) × (List Joint))) (hz := rfl) (he := fun _ _ => rfl) (Foc.snd) fun _ _ => rfl
theorem th_Net {H : Heap} {d n : Nat} {rs rs1 : List Res} {cs : List V} {x : Net} (h : ThV n H d rs cs (x.Pieces, x.Joints) rs1) : ThV n H d rs cs x rs1 := h
theorem ls_Net {H G : Heap} {rs : List Res} {S F : List Nat} {x : Net} {cs : List V} {j : Nat} (hO : Owns H G rs) (hj : rs[j]? = some (Tree S F x cs)) (lv n : Nat) (hn : Nat.ble (GoM.dep Net) n = true := by rfl) : ∃ M, lendV lv G (n + 1) (.agg cs) = some (.agg [litL lv 0 x.Pieces, litL lv lv x.Joints], M) := by
 have h := ld_trS hO hj lv n hn
 have e : GoT.encL lv x = [litL lv 0 x.Pieces, litL lv lv x.Joints] := by
  show ([litL lv lv x.Pieces, litL lv lv x.Joints] : List V) = _
  simp only [litL, flat_lv]
 rwa [e] at h
structure Spot where
 Piece : Int
 At : Int
 Way : Int
instance : GoT Spot := ⟨3, by decide, fun l x => GoT.encL l x.Piece ++ (GoT.encL l x.At ++ (GoT.encL l x.Way)), fun x => by simp only [List.length_append, GoT.len]; rfl, fun x h => by simp only [cleanL_append, GoT.cleanM _ h]; rfl, fun x => by simp only [List.all_append, GoT.cell]; rfl⟩
instance : GoM Spot := GoM.via (fun x => (x.Piece, x.At, x.Way) : Spot → Int × Int × Int) rfl fun _ _ => rfl
instance : GoFl Spot := ⟨fun G x => GoFl.fl (α := Int × Int × Int) G (x.Piece, x.At, x.Way), fun l x => GoFl.lev (α := Int × Int × Int) l (x.Piece, x.At, x.Way), GoFl.pos (α := Int × Int × Int)⟩
structure Step where
 Piece : Int
 Way : Int
instance : GoT Step := ⟨2, by decide, fun l x => GoT.encL l x.Piece ++ (GoT.encL l x.Way), fun x => by simp only [List.length_append, GoT.len]; rfl, fun x h => by simp only [cleanL_append, GoT.cleanM _ h]; rfl, fun x => by simp only [List.all_append, GoT.cell]; rfl⟩
instance : GoM Step := GoM.via (fun x => (x.Piece, x.Way) : Step → Int × Int) rfl fun _ _ => rfl
instance : GoFl Step := ⟨fun G x => GoFl.fl (α := Int × Int) G (x.Piece, x.Way), fun l x => GoFl.lev (α := Int × Int) l (x.Piece, x.Way), GoFl.pos (α := Int × Int)⟩
theorem foc_Step_Piece : Foc Step Int (fun x => x.Piece) (fun x y => { x with Piece := y }) 0 := Foc.via (α := Step) (f := (fun x => (x.Piece, x.Way) : Step → Int × Int)) (hz := rfl) (he := fun _ _ => rfl) (Foc.fst) fun _ _ => rfl
theorem foc_Step_Way : Foc Step Int (fun x => x.Way) (fun x y => { x with Way := y }) 1 := Foc.via (α := Step) (f := (fun x => (x.Piece, x.Way) : Step → Int × Int)) (hz := rfl) (he := fun _ _ => rfl) (Foc.snd) fun _ _ => rfl
structure Train where
 Front : Spot
 Long : Int
 Back : List Step
instance : GoT Train := ⟨5, by decide, fun l x => GoT.encL l x.Front ++ (GoT.encL l x.Long ++ (GoT.encL l x.Back)), fun x => by simp only [List.length_append, GoT.len]; rfl, fun x h => by simp only [cleanL_append, GoT.cleanM _ h]; rfl, fun x => by simp only [List.all_append, GoT.cell]; rfl⟩
instance : GoM Train := GoM.via (fun x => (x.Front, x.Long, x.Back) : Train → Spot × Int × (List Step)) rfl fun _ _ => rfl
theorem foc_Train_Back : Foc Train (List Step) (fun x => x.Back) (fun x y => { x with Back := y }) 4 := Foc.via (α := Train) (f := (fun x => (x.Front, x.Long, x.Back) : Train → Spot × Int × (List Step))) (hz := rfl) (he := fun _ _ => rfl) (Foc.comp Foc.snd (Foc.snd)) fun _ _ => rfl
theorem th_Train {H : Heap} {d n : Nat} {rs rs1 : List Res} {cs : List V} {x : Train} (h : ThV n H d rs cs (x.Front, x.Long, x.Back) rs1) : ThV n H d rs cs x rs1 := h
theorem ls_Train {H G : Heap} {rs : List Res} {S F : List Nat} {x : Train} {cs : List V} {j : Nat} (hO : Owns H G rs) (hj : rs[j]? = some (Tree S F x cs)) (lv n : Nat) (hn : Nat.ble (GoM.dep Train) n = true := by rfl) : ∃ M, lendV lv G (n + 1) (.agg cs) = some (.agg [.int .i64 x.Front.Piece, .int .i64 x.Front.At, .int .i64 x.Front.Way, .int .i64 x.Long, litL lv 0 x.Back], M) := by
 have h := ld_trS hO hj lv n hn
 have e : GoT.encL lv x = [.int .i64 x.Front.Piece, .int .i64 x.Front.At, .int .i64 x.Front.Way, .int .i64 x.Long, litL lv 0 x.Back] := by
  show ([.int .i64 x.Front.Piece, .int .i64 x.Front.At, .int .i64 x.Front.Way, .int .i64 x.Long, litL lv lv x.Back] : List V) = _
  simp only [litL, flat_lv]
 rwa [e] at h
structure Fault where
 Code : Int
 At : Int
instance : GoT Fault := ⟨2, by decide, fun l x => GoT.encL l x.Code ++ (GoT.encL l x.At), fun x => by simp only [List.length_append, GoT.len]; rfl, fun x h => by simp only [cleanL_append, GoT.cleanM _ h]; rfl, fun x => by simp only [List.all_append, GoT.cell]; rfl⟩
instance : GoM Fault := GoM.via (fun x => (x.Code, x.At) : Fault → Int × Int) rfl fun _ _ => rfl
instance : GoFl Fault := ⟨fun G x => GoFl.fl (α := Int × Int) G (x.Code, x.At), fun l x => GoFl.lev (α := Int × Int) l (x.Code, x.At), GoFl.pos (α := Int × Int)⟩
structure Part where
 Piece : Int
 From : Int
 To : Int
instance : GoT Part := ⟨3, by decide, fun l x => GoT.encL l x.Piece ++ (GoT.encL l x.From ++ (GoT.encL l x.To)), fun x => by simp only [List.length_append, GoT.len]; rfl, fun x h => by simp only [cleanL_append, GoT.cleanM _ h]; rfl, fun x => by simp only [List.all_append, GoT.cell]; rfl⟩
instance : GoM Part := GoM.via (fun x => (x.Piece, x.From, x.To) : Part → Int × Int × Int) rfl fun _ _ => rfl
instance : GoFl Part := ⟨fun G x => GoFl.fl (α := Int × Int × Int) G (x.Piece, x.From, x.To), fun l x => GoFl.lev (α := Int × Int × Int) l (x.Piece, x.From, x.To), GoFl.pos (α := Int × Int × Int)⟩
theorem tZ25 : szOf Try.prog 25 = some 2 := by rfl
theorem tZ30 : szOf Try.prog 30 = some 5 := by rfl
theorem tA25 : aggT Try.prog 25 = some true := by rfl
theorem tF25_0 : fieldOff Try.prog 25 0 = some 0 := by rfl
theorem tA22 : aggT Try.prog 22 = some false := by rfl
theorem tS22 : strT Try.prog 22 = some false := by rfl
theorem tE22 : elemT Try.prog 22 = some 71 := by rfl
theorem tZ71 : szOf Try.prog 71 = some 4 := by rfl
theorem tA71 : aggT Try.prog 71 = some true := by rfl
theorem tF71_0 : fieldOff Try.prog 71 0 = some 0 := by rfl
theorem tA9 : aggT Try.prog 9 = some false := by rfl
theorem tS9 : strT Try.prog 9 = some true := by rfl
theorem tF25_1 : fieldOff Try.prog 25 1 = some 1 := by rfl
theorem tA23 : aggT Try.prog 23 = some false := by rfl
theorem tS23 : strT Try.prog 23 = some false := by rfl
theorem tE23 : elemT Try.prog 23 = some 75 := by rfl
theorem tZ75 : szOf Try.prog 75 = some 3 := by rfl
theorem tA75 : aggT Try.prog 75 = some true := by rfl
theorem tF75_1 : fieldOff Try.prog 75 1 = some 1 := by rfl
theorem tF75_2 : fieldOff Try.prog 75 2 = some 2 := by rfl
theorem tA73 : aggT Try.prog 73 = some false := by rfl
theorem tS73 : strT Try.prog 73 = some false := by rfl
theorem tA30 : aggT Try.prog 30 = some true := by rfl
theorem tF30_2 : fieldOff Try.prog 30 2 = some 4 := by rfl
theorem tA28 : aggT Try.prog 28 = some false := by rfl
theorem tS28 : strT Try.prog 28 = some false := by rfl
theorem tZ41 : szOf Try.prog 41 = some 2 := by rfl
theorem t041 : zeroOf Try.prog 41 = some [(.tl 0 []), (.tl 0 [])] := by rfl
theorem tE38 : elemT Try.prog 38 = some 58 := by rfl
theorem tZ58 : szOf Try.prog 58 = some 4 := by rfl
theorem tB58 : bytesOf Try.prog 58 = some 40 := by rfl
theorem t058 : zeroOf Try.prog 58 = some [.str ByteArray.empty, .int .i64 0, .int .i64 0, .int .i64 0] := by rfl
theorem tF58_0 : fieldOff Try.prog 58 0 = some 0 := by rfl
theorem tZ9 : szOf Try.prog 9 = some 1 := by rfl
theorem tF71_1 : fieldOff Try.prog 71 1 = some 1 := by rfl
theorem tA3 : aggT Try.prog 3 = some false := by rfl
theorem tF58_1 : fieldOff Try.prog 58 1 = some 1 := by rfl
theorem tZ3 : szOf Try.prog 3 = some 1 := by rfl
theorem tF71_2 : fieldOff Try.prog 71 2 = some 2 := by rfl
theorem tF58_2 : fieldOff Try.prog 58 2 = some 2 := by rfl
theorem tF71_3 : fieldOff Try.prog 71 3 = some 3 := by rfl
theorem tF58_3 : fieldOff Try.prog 58 3 = some 3 := by rfl
theorem tA58 : aggT Try.prog 58 = some true := by rfl
theorem tF41_0 : fieldOff Try.prog 41 0 = some 0 := by rfl
theorem tZ38 : szOf Try.prog 38 = some 1 := by rfl
theorem tE39 : elemT Try.prog 39 = some 80 := by rfl
theorem tZ80 : szOf Try.prog 80 = some 3 := by rfl
theorem tB80 : bytesOf Try.prog 80 = some 48 := by rfl
theorem t080 : zeroOf Try.prog 80 = some [.int .i64 0, .str ByteArray.empty, (.tl 0 [])] := by rfl
theorem tF75_0 : fieldOff Try.prog 75 0 = some 0 := by rfl
theorem tF80_0 : fieldOff Try.prog 80 0 = some 0 := by rfl
theorem tF80_1 : fieldOff Try.prog 80 1 = some 1 := by rfl
theorem tE78 : elemT Try.prog 78 = some 106 := by rfl
theorem tZ106 : szOf Try.prog 106 = some 2 := by rfl
theorem tB106 : bytesOf Try.prog 106 = some 16 := by rfl
theorem t0106 : zeroOf Try.prog 106 = some [.int .i64 0, .int .i64 0] := by rfl
theorem tE73 : elemT Try.prog 73 = some 119 := by rfl
theorem tZ119 : szOf Try.prog 119 = some 2 := by rfl
theorem tA119 : aggT Try.prog 119 = some true := by rfl
theorem tF119_0 : fieldOff Try.prog 119 0 = some 0 := by rfl
theorem tF106_0 : fieldOff Try.prog 106 0 = some 0 := by rfl
theorem tF119_1 : fieldOff Try.prog 119 1 = some 1 := by rfl
theorem tF106_1 : fieldOff Try.prog 106 1 = some 1 := by rfl
theorem tA106 : aggT Try.prog 106 = some true := by rfl
theorem tF80_2 : fieldOff Try.prog 80 2 = some 2 := by rfl
theorem tZ78 : szOf Try.prog 78 = some 1 := by rfl
theorem tA80 : aggT Try.prog 80 = some true := by rfl
theorem tF41_1 : fieldOff Try.prog 41 1 = some 1 := by rfl
theorem tZ39 : szOf Try.prog 39 = some 1 := by rfl
theorem tA41 : aggT Try.prog 41 = some true := by rfl
theorem tZ36 : szOf Try.prog 36 = some 5 := by rfl
theorem t036 : zeroOf Try.prog 36 = some [.int .i64 0, .int .i64 0, .int .i64 0, .int .i64 0, (.tl 0 [])] := by rfl
theorem tF30_0 : fieldOff Try.prog 30 0 = some 0 := by rfl
theorem tA27 : aggT Try.prog 27 = some true := by rfl
theorem tZ27 : szOf Try.prog 27 = some 3 := by rfl
theorem tZ33 : szOf Try.prog 33 = some 3 := by rfl
theorem t033 : zeroOf Try.prog 33 = some [.int .i64 0, .int .i64 0, .int .i64 0] := by rfl
theorem tF27_0 : fieldOff Try.prog 27 0 = some 0 := by rfl
theorem tF33_0 : fieldOff Try.prog 33 0 = some 0 := by rfl
theorem tF27_1 : fieldOff Try.prog 27 1 = some 1 := by rfl
theorem tF33_1 : fieldOff Try.prog 33 1 = some 1 := by rfl
theorem tF27_2 : fieldOff Try.prog 27 2 = some 2 := by rfl
theorem tF33_2 : fieldOff Try.prog 33 2 = some 2 := by rfl
theorem tA33 : aggT Try.prog 33 = some true := by rfl
theorem tF36_0 : fieldOff Try.prog 36 0 = some 0 := by rfl
theorem tF30_1 : fieldOff Try.prog 30 1 = some 3 := by rfl
theorem tF36_1 : fieldOff Try.prog 36 1 = some 3 := by rfl
theorem tE34 : elemT Try.prog 34 = some 55 := by rfl
theorem tZ55 : szOf Try.prog 55 = some 2 := by rfl
theorem tB55 : bytesOf Try.prog 55 = some 16 := by rfl
theorem t055 : zeroOf Try.prog 55 = some [.int .i64 0, .int .i64 0] := by rfl
theorem tE28 : elemT Try.prog 28 = some 83 := by rfl
theorem tZ83 : szOf Try.prog 83 = some 2 := by rfl
theorem tA83 : aggT Try.prog 83 = some true := by rfl
theorem tF83_0 : fieldOff Try.prog 83 0 = some 0 := by rfl
theorem tF55_0 : fieldOff Try.prog 55 0 = some 0 := by rfl
theorem tF83_1 : fieldOff Try.prog 83 1 = some 1 := by rfl
theorem tF55_1 : fieldOff Try.prog 55 1 = some 1 := by rfl
theorem tA55 : aggT Try.prog 55 = some true := by rfl
theorem tF36_2 : fieldOff Try.prog 36 2 = some 4 := by rfl
theorem tZ34 : szOf Try.prog 34 = some 1 := by rfl
theorem tA36 : aggT Try.prog 36 = some true := by rfl
theorem tZ96 : szOf Try.prog 96 = some 2 := by rfl
theorem t096 : zeroOf Try.prog 96 = some [.int .i64 0, .int .i64 0] := by rfl
theorem tA38 : aggT Try.prog 38 = some false := by rfl
theorem tS38 : strT Try.prog 38 = some false := by rfl
theorem tA39 : aggT Try.prog 39 = some false := by rfl
theorem tS39 : strT Try.prog 39 = some false := by rfl
theorem tP96 : placesK Try.prog 96 = some [(0, 1), (1, 1)] := by rfl
theorem tA96 : aggT Try.prog 96 = some true := by rfl
theorem tA78 : aggT Try.prog 78 = some false := by rfl
theorem tS78 : strT Try.prog 78 = some false := by rfl
theorem tP106 : placesK Try.prog 106 = some [(0, 1), (1, 1)] := by rfl
theorem tG106 : flatT Try.prog 106 = some [.i, .i] := by decide +kernel
theorem tF96_0 : fieldOff Try.prog 96 0 = some 0 := by rfl
theorem tA34 : aggT Try.prog 34 = some false := by rfl
theorem tS34 : strT Try.prog 34 = some false := by rfl
theorem tP55 : placesK Try.prog 55 = some [(0, 1), (1, 1)] := by rfl
theorem tE102 : elemT Try.prog 102 = some 3 := by rfl
theorem t03 : zeroOf Try.prog 3 = some [.int .i64 0] := by rfl
theorem tP36 : placesK Try.prog 36 = some [(0, 3), (3, 1), (4, 1)] := by rfl
theorem tP33 : placesK Try.prog 33 = some [(0, 1), (1, 1), (2, 1)] := by rfl
theorem tM120 : mapK Try.prog 120 = some (.one .s, 4) := by decide +kernel
theorem tY4 : zero1 Try.prog 4 = some (GoP.pv (false : Bool)) := by rfl
theorem tM122 : mapK Try.prog 122 = some (.many [.i, .i], 3) := by decide +kernel
theorem tY3 : zero1 Try.prog 3 = some (GoP.pv (0 : Int)) := by rfl
theorem tG96 : flatT Try.prog 96 = some [.i, .i] := by decide +kernel
theorem tZ87 : szOf Try.prog 87 = some 3 := by rfl
theorem t087 : zeroOf Try.prog 87 = some [.int .i64 0, .int .i64 0, .int .i64 0] := by rfl
theorem tP87 : placesK Try.prog 87 = some [(0, 1), (1, 1), (2, 1)] := by rfl
theorem tA87 : aggT Try.prog 87 = some true := by rfl
theorem tE84 : elemT Try.prog 84 = some 87 := by rfl
theorem tB87 : bytesOf Try.prog 87 = some 24 := by rfl
theorem tS84 : strT Try.prog 84 = some false := by rfl
theorem tF87_0 : fieldOff Try.prog 87 0 = some 0 := by rfl
theorem tF87_1 : fieldOff Try.prog 87 1 = some 1 := by rfl
theorem tF87_2 : fieldOff Try.prog 87 2 = some 2 := by rfl
theorem tE111 : elemT Try.prog 111 = some 5 := by rfl
theorem tZ5 : szOf Try.prog 5 = some 1 := by rfl
theorem t05 : zeroOf Try.prog 5 = some [.int .u8 0] := by rfl
def f36 (aA0 : Piece) (aLeft1 : Int) : Option Int :=
 (bif decide ((w64 (aLeft1 - (aA0.Name.size : Int))) < (0:Int)) then some (-1:Int) else some (w64 (aLeft1 - (aA0.Name.size : Int))))
theorem f36_run {aA0 : Piece} {aLeft1 : Int} {r : Int} (hk : f36 aA0 aLeft1 = some r) (hlk : 0 < lk.length := by simp) : runL Try.prog hh 36 [.agg [.str aA0.Name, iv aA0.Len, iv aA0.Speed, iv aA0.Brake], iv aLeft1] H lk = some (iv r, H) := by
 refine run_start Try.func36 rfl Try.ntmps36 Try.results36 rfl rfl fun hO => ?_
 unfold f36 at hk
 refine lsq (lrg (pBox (cs := [_, _, _, _]) hO tZ71 (fun b1 G hO => ?_)))
 refine pA (.int _ _) (pE (gn (lsq (lrg ?_))))
 refine pM (.int _ _) ?_
 refine pFL tF71_0 hO 0 (.str _) tA9 ?_
 refine pLen tS9 ?_
 refine pBi ?_
 refine pA (.int _ _) (pE (gn (lsq (lsq (lrg ?_)))))
 refine pM (.int _ _) ?_
 refine pBi (pE (gn (lck hk (fun hk => ?_) (fun hk => ?_))))
 ·refine lsq (lrg (pA (.int _ _) (pE (gn (lrt (gr ?_))))))
  cases hk; exact fin0 hO
 ·refine lsk (gn (lsq (lrg (pM (.int _ _) ?_))))
  refine pA (.int _ _) (pE (gn (lrt ?_)))
  cases hk; exact fin0 hO
def f15_L1 (aA0 : List Piece) : (Int × Int) → Option ((Int × Int) ⊕ Int) := fun s =>
 (bif decide (s.2 < (aA0.length : Int)) then ((getI aA0 s.2).bind fun c3 => ((f36 c3 s.1).bind fun v4 => (bif decide (v4 < (0:Int)) then ((some (-1:Int)).map Sum.inr) else some (.inl (v4, w64 (s.2 + (1:Int))))))) else ((some s.1).map Sum.inr))
def f15 (aA0 : List Piece) (aLeft1 : Int) : Option Int :=
 (bif decide ((w64 (aLeft1 - (aA0.length : Int))) < (0:Int)) then some (-1:Int) else (loopO (f15_L1 aA0) (w64 (aLeft1 - (aA0.length : Int)), (0:Int))))
theorem f15_run {aA0 : List Piece} {aLeft1 : Int} {r : Int} {l1 : Nat} (hk : f15 aA0 aLeft1 = some r) (hlk : 0 < lk.length := by simp) : runL Try.prog hh 15 [litL l1 0 aA0, iv aLeft1] H lk = some (iv r, H) := by
 refine run_start Try.func15 rfl Try.ntmps15 Try.results15 rfl rfl fun hO => ?_
 unfold f15 at hk
 refine lsq (lrg (pA (.int _ _) (pE (gn (lsq (lrg ?_))))))
 refine pM (.int _ _) ?_
 refine pM (.lit _ _ _) ?_
 refine pLen tS22 ?_
 refine pBi ?_
 refine pA (.int _ _) (pE (gn (lsq (lsq (lrg ?_)))))
 refine pM (.int _ _) ?_
 refine pBi (pE (gn (lck hk (fun hk => ?_) (fun hk => ?_))))
 ·refine lsq (lrg (pA (.int _ _) (pE (gn (lrt (gr ?_))))))
  cases hk; exact fin0 hO
 ·refine lsk (gn (lsq (lsq (lrg (pA (.int _ _) (pE (gn (lbl ?_))))))))
  refine wpL_loopO (F := f15_L1 aA0) (fun s S' => ∃ (J : Nat → V) (G : Heap), Owns H G [] ∧ S' = ⟨hav [(0, litL l1 0 aA0), (1, iv s.1), (5, iv s.2)] J, G⟩) hk ⟨_, _, hO, sh⟩ ?_
  rintro ⟨x1, x2⟩ _ y1 ⟨J, G, hO, rfl⟩ hk hx1
  refine lsq (lsq (lrg (pM (.int _ _) ?_)))
  refine pM (.lit _ _ _) ?_
  refine pLen tS22 ?_
  refine pBi (pE (gn (lck hk (fun hk => ?_) (fun hk => ?_))))
  ·refine lsk (gn (lsq (lbl (lsq (lrg (pM (.lit _ _ _) ?_))))))
   refine pM (.int _ _) (bk hk fun c3 hc3 hk => ?_)
   refine pX hc3 tE22 tZ71 ?_
   refine pLp (.agg [_, _, _, _]) (rd2 (lm := 0) (off := 0) hc3 tA71 tZ71) ?_
   refine pM (.int _ _) (bk hk fun v4 hv4 hk => ?_)
   refine pCall (fun _ => f36_run hv4) ?_
   refine pA (.int _ _) (pE (gn (lsq (lrg ?_))))
   refine pM (.int _ _) ?_
   refine pBi (pE (gn (lck hk (fun hk => ?_) (fun hk => ?_))))
   ·refine lsq (lrg (pA (.int _ _) (pE (gn (lrt (br (gr (gr (br (gr (have hk := lx hx1 hk; ?_)))))))))))
    cases hk; exact fin0 hO
   ·refine lsk (bn (gn (lrg (pM (.int _ _) ?_))))
    refine pBi ?_
    refine pA (.int _ _) (pE (gn ?_))
    cases hk; exact ⟨_, rfl, _, _, hO, sh⟩
  ·refine lex (ge (ge (be (gn (have hk := lx hx1 hk; lsq (lrg (pM (.int _ _) ?_)))))))
   refine pA (.int _ _) (pE (gn (lrt ?_)))
   cases hk; exact fin0 hO
def f54 (aA0 : List End) (aLeft1 : Int) : Option Int :=
 (bif decide ((w64 (aLeft1 - (aA0.length : Int))) < (0:Int)) then some (-1:Int) else some (w64 (aLeft1 - (aA0.length : Int))))
theorem f54_run {aA0 : List End} {aLeft1 : Int} {r : Int} {l1 : Nat} (hk : f54 aA0 aLeft1 = some r) (hlk : 0 < lk.length := by simp) : runL Try.prog hh 54 [litL l1 0 aA0, iv aLeft1] H lk = some (iv r, H) := by
 refine run_start Try.func54 rfl Try.ntmps54 Try.results54 rfl rfl fun hO => ?_
 unfold f54 at hk
 refine lsq (lrg (pA (.int _ _) (pE (gn (lsq (lrg ?_))))))
 refine pM (.int _ _) ?_
 refine pM (.lit _ _ _) ?_
 refine pLen tS73 ?_
 refine pBi ?_
 refine pA (.int _ _) (pE (gn (lsq (lsq (lrg ?_)))))
 refine pM (.int _ _) ?_
 refine pBi (pE (gn (lck hk (fun hk => ?_) (fun hk => ?_))))
 ·refine lsq (lrg (pA (.int _ _) (pE (gn (lrt (gr ?_))))))
  cases hk; exact fin0 hO
 ·refine lsk (gn (lsq (lrg (pM (.int _ _) ?_))))
  refine pA (.int _ _) (pE (gn (lrt ?_)))
  cases hk; exact fin0 hO
def f37 (aA0 : Joint) (aLeft1 : Int) : Option Int :=
 (bif decide ((w64 (aLeft1 - (aA0.Name.size : Int))) < (0:Int)) then some (-1:Int) else ((f54 aA0.Ends (w64 (aLeft1 - (aA0.Name.size : Int)))).bind fun v2 => (bif decide (v2 < (0:Int)) then some (-1:Int) else some v2)))
theorem f37_run {aA0 : Joint} {aLeft1 : Int} {r : Int} {l1 : Nat} (hk : f37 aA0 aLeft1 = some r) (hlk : 0 < lk.length := by simp) : runL Try.prog hh 37 [.agg [iv aA0.Kind, .str aA0.Name, litL l1 0 aA0.Ends], iv aLeft1] H lk = some (iv r, H) := by
 refine run_start Try.func37 rfl Try.ntmps37 Try.results37 rfl rfl fun hO => ?_
 unfold f37 at hk
 refine lsq (lrg (pBox (cs := [_, _, _]) hO tZ75 (fun b1 G hO => ?_)))
 refine pA (.int _ _) (pE (gn (lsq (lrg ?_))))
 refine pM (.int _ _) ?_
 refine pFL tF75_1 hO 0 (.str _) tA9 ?_
 refine pLen tS9 ?_
 refine pBi ?_
 refine pA (.int _ _) (pE (gn (lsq (lsq (lrg ?_)))))
 refine pM (.int _ _) ?_
 refine pBi (pE (gn (lck hk (fun hk => ?_) (fun hk => ?_))))
 ·refine lsq (lrg (pA (.int _ _) (pE (gn (lrt (gr ?_))))))
  cases hk; exact fin0 hO
 ·refine lsk (gn (lsq (lrg (pFL tF75_2 hO 0 (.lit _ _ _) tA73 ?_))))
  refine pM (.int _ _) (bk hk fun v2 hv2 hk => ?_)
  refine pCall (fun _ => f54_run hv2) ?_
  refine pA (.int _ _) (pE (gn (lsq (lsq (lrg ?_)))))
  refine pM (.int _ _) ?_
  refine pBi (pE (gn (lck hk (fun hk => ?_) (fun hk => ?_))))
  ·refine lsq (lrg (pA (.int _ _) (pE (gn (lrt (gr ?_))))))
   cases hk; exact fin0 hO
  ·refine lsk (gn (lsq (lrg (pM (.int _ _) ?_))))
   refine pA (.int _ _) (pE (gn (lrt ?_)))
   cases hk; exact fin0 hO
def f16_L1 (aA0 : List Joint) : (Int × Int) → Option ((Int × Int) ⊕ Int) := fun s =>
 (bif decide (s.2 < (aA0.length : Int)) then ((getI aA0 s.2).bind fun c3 => ((f37 c3 s.1).bind fun v4 => (bif decide (v4 < (0:Int)) then ((some (-1:Int)).map Sum.inr) else some (.inl (v4, w64 (s.2 + (1:Int))))))) else ((some s.1).map Sum.inr))
def f16 (aA0 : List Joint) (aLeft1 : Int) : Option Int :=
 (bif decide ((w64 (aLeft1 - (aA0.length : Int))) < (0:Int)) then some (-1:Int) else (loopO (f16_L1 aA0) (w64 (aLeft1 - (aA0.length : Int)), (0:Int))))
theorem f16_run {aA0 : List Joint} {aLeft1 : Int} {r : Int} {l1 m2 : Nat} (hk : f16 aA0 aLeft1 = some r) (hlk : 0 < lk.length := by simp) : runL Try.prog hh 16 [litL l1 m2 aA0, iv aLeft1] H lk = some (iv r, H) := by
 refine run_start Try.func16 rfl Try.ntmps16 Try.results16 rfl rfl fun hO => ?_
 unfold f16 at hk
 refine lsq (lrg (pA (.int _ _) (pE (gn (lsq (lrg ?_))))))
 refine pM (.int _ _) ?_
 refine pM (.lit _ _ _) ?_
 refine pLen tS23 ?_
 refine pBi ?_
 refine pA (.int _ _) (pE (gn (lsq (lsq (lrg ?_)))))
 refine pM (.int _ _) ?_
 refine pBi (pE (gn (lck hk (fun hk => ?_) (fun hk => ?_))))
 ·refine lsq (lrg (pA (.int _ _) (pE (gn (lrt (gr ?_))))))
  cases hk; exact fin0 hO
 ·refine lsk (gn (lsq (lsq (lrg (pA (.int _ _) (pE (gn (lbl ?_))))))))
  refine wpL_loopO (F := f16_L1 aA0) (fun s S' => ∃ (J : Nat → V) (G : Heap), Owns H G [] ∧ S' = ⟨hav [(0, litL l1 m2 aA0), (1, iv s.1), (5, iv s.2)] J, G⟩) hk ⟨_, _, hO, sh⟩ ?_
  rintro ⟨x1, x2⟩ _ y1 ⟨J, G, hO, rfl⟩ hk hx1
  refine lsq (lsq (lrg (pM (.int _ _) ?_)))
  refine pM (.lit _ _ _) ?_
  refine pLen tS23 ?_
  refine pBi (pE (gn (lck hk (fun hk => ?_) (fun hk => ?_))))
  ·refine lsk (gn (lsq (lbl (lsq (lrg (pM (.lit _ _ _) ?_))))))
   refine pM (.int _ _) (bk hk fun c3 hc3 hk => ?_)
   refine pX hc3 tE23 tZ75 ?_
   refine pLp (.agg [_, _, _]) (rd2 (lm := m2) (off := 0) hc3 tA75 tZ75) ?_
   refine pM (.int _ _) (bk hk fun v4 hv4 hk => ?_)
   refine pCall (fun _ => f37_run hv4) ?_
   refine pA (.int _ _) (pE (gn (lsq (lrg ?_))))
   refine pM (.int _ _) ?_
   refine pBi (pE (gn (lck hk (fun hk => ?_) (fun hk => ?_))))
   ·refine lsq (lrg (pA (.int _ _) (pE (gn (lrt (br (gr (gr (br (gr (have hk := lx hx1 hk; ?_)))))))))))
    cases hk; exact fin0 hO
   ·refine lsk (bn (gn (lrg (pM (.int _ _) ?_))))
    refine pBi ?_
    refine pA (.int _ _) (pE (gn ?_))
    cases hk; exact ⟨_, rfl, _, _, hO, sh⟩
  ·refine lex (ge (ge (be (gn (have hk := lx hx1 hk; lsq (lrg (pM (.int _ _) ?_)))))))
   refine pA (.int _ _) (pE (gn (lrt ?_)))
   cases hk; exact fin0 hO
def f4 (aA0 : Net) (aLeft1 : Int) : Option Int :=
 ((f15 aA0.Pieces aLeft1).bind fun v2 => (bif decide (v2 < (0:Int)) then some (-1:Int) else ((f16 aA0.Joints v2).bind fun v3 => (bif decide (v3 < (0:Int)) then some (-1:Int) else some v3))))
theorem f4_run {aA0 : Net} {aLeft1 : Int} {r : Int} {l1 l2 m3 : Nat} (hk : f4 aA0 aLeft1 = some r) (hlk : 0 < lk.length := by simp) : runL Try.prog hh 4 [.agg [litL l1 0 aA0.Pieces, litL l2 m3 aA0.Joints], iv aLeft1] H lk = some (iv r, H) := by
 refine run_start Try.func4 rfl Try.ntmps4 Try.results4 rfl rfl fun hO => ?_
 unfold f4 at hk
 refine lsq (lrg (pBox (cs := [_, _]) hO tZ25 (fun b1 G hO => ?_)))
 refine pA (.int _ _) (pE (gn (lsq (lrg ?_))))
 refine pFL tF25_0 hO 0 (.lit _ _ _) tA22 ?_
 refine pM (.int _ _) (bk hk fun v2 hv2 hk => ?_)
 refine pCall (fun _ => f15_run hv2) ?_
 refine pA (.int _ _) (pE (gn (lsq (lsq (lrg ?_)))))
 refine pM (.int _ _) ?_
 refine pBi (pE (gn (lck hk (fun hk => ?_) (fun hk => ?_))))
 ·refine lsq (lrg (pA (.int _ _) (pE (gn (lrt (gr ?_))))))
  cases hk; exact fin0 hO
 ·refine lsk (gn (lsq (lrg (pFL tF25_1 hO 0 (.lit _ _ _) tA23 ?_))))
  refine pM (.int _ _) (bk hk fun v3 hv3 hk => ?_)
  refine pCall (fun _ => f16_run hv3) ?_
  refine pA (.int _ _) (pE (gn (lsq (lsq (lrg ?_)))))
  refine pM (.int _ _) ?_
  refine pBi (pE (gn (lck hk (fun hk => ?_) (fun hk => ?_))))
  ·refine lsq (lrg (pA (.int _ _) (pE (gn (lrt (gr ?_))))))
   cases hk; exact fin0 hO
  ·refine lsk (gn (lsq (lrg (pM (.int _ _) ?_))))
   refine pA (.int _ _) (pE (gn (lrt ?_)))
   cases hk; exact fin0 hO
def f17 (aA0 : List Step) (aLeft1 : Int) : Option Int :=
 (bif decide ((w64 (aLeft1 - (aA0.length : Int))) < (0:Int)) then some (-1:Int) else some (w64 (aLeft1 - (aA0.length : Int))))
theorem f17_run {aA0 : List Step} {aLeft1 : Int} {r : Int} {l1 : Nat} (hk : f17 aA0 aLeft1 = some r) (hlk : 0 < lk.length := by simp) : runL Try.prog hh 17 [litL l1 0 aA0, iv aLeft1] H lk = some (iv r, H) := by
 refine run_start Try.func17 rfl Try.ntmps17 Try.results17 rfl rfl fun hO => ?_
 unfold f17 at hk
 refine lsq (lrg (pA (.int _ _) (pE (gn (lsq (lrg ?_))))))
 refine pM (.int _ _) ?_
 refine pM (.lit _ _ _) ?_
 refine pLen tS28 ?_
 refine pBi ?_
 refine pA (.int _ _) (pE (gn (lsq (lsq (lrg ?_)))))
 refine pM (.int _ _) ?_
 refine pBi (pE (gn (lck hk (fun hk => ?_) (fun hk => ?_))))
 ·refine lsq (lrg (pA (.int _ _) (pE (gn (lrt (gr ?_))))))
  cases hk; exact fin0 hO
 ·refine lsk (gn (lsq (lrg (pM (.int _ _) ?_))))
  refine pA (.int _ _) (pE (gn (lrt ?_)))
  cases hk; exact fin0 hO
def f5 (aA0 : Train) (aLeft1 : Int) : Option Int :=
 ((f17 aA0.Back aLeft1).bind fun v2 => (bif decide (v2 < (0:Int)) then some (-1:Int) else some v2))
theorem f5_run {aA0 : Train} {aLeft1 : Int} {r : Int} {l1 : Nat} (hk : f5 aA0 aLeft1 = some r) (hlk : 0 < lk.length := by simp) : runL Try.prog hh 5 [.agg [iv aA0.Front.Piece, iv aA0.Front.At, iv aA0.Front.Way, iv aA0.Long, litL l1 0 aA0.Back], iv aLeft1] H lk = some (iv r, H) := by
 refine run_start Try.func5 rfl Try.ntmps5 Try.results5 rfl rfl fun hO => ?_
 unfold f5 at hk
 refine lsq (lrg (pBox (cs := [_, _, _, _, _]) hO tZ30 (fun b1 G hO => ?_)))
 refine pA (.int _ _) (pE (gn (lsq (lrg ?_))))
 refine pFL tF30_2 hO 0 (.lit _ _ _) tA28 ?_
 refine pM (.int _ _) (bk hk fun v2 hv2 hk => ?_)
 refine pCall (fun _ => f17_run hv2) ?_
 refine pA (.int _ _) (pE (gn (lsq (lsq (lrg ?_)))))
 refine pM (.int _ _) ?_
 refine pBi (pE (gn (lck hk (fun hk => ?_) (fun hk => ?_))))
 ·refine lsq (lrg (pA (.int _ _) (pE (gn (lrt (gr ?_))))))
  cases hk; exact fin0 hO
 ·refine lsk (gn (lsq (lrg (pM (.int _ _) ?_))))
  refine pA (.int _ _) (pE (gn (lrt ?_)))
  cases hk; exact fin0 hO
def f41 (aA0 : Piece) : Option Piece :=
 some aA0
theorem f41_run {aA0 : Piece} {r : Piece} (hk : f41 aA0 = some r) (hlk : 0 < lk.length := by simp) : runL Try.prog hh 41 [.agg [.str aA0.Name, iv aA0.Len, iv aA0.Speed, iv aA0.Brake]] H lk = some (.agg [.str r.Name, iv r.Len, iv r.Speed, iv r.Brake], H) := by
 refine run_start Try.func41 rfl Try.ntmps41 Try.results41 rfl rfl fun hO => ?_
 unfold f41 at hk
 refine lsq (lrg (pBox (cs := [_, _, _, _]) hO tZ71 (fun b1 G hO => pNew hO tZ58 t058 (fun b2 G hO => pE (gn (lsq (lrg (pNew hO tZ58 t058 (fun b3 G hO => pE (gn (lsq (lrg ?_))))))))))))
 refine pFL tF71_0 hO 2 (.str _) tA9 ?_
 refine pF tF58_0 ?_
 refine pSt (xs := [_]) hO 0 tZ9 rfl (fun G hO => pE (gn (lsq (lrg ?_))))
 refine pFL tF71_1 hO 2 (.int _ _) tA3 ?_
 refine pF tF58_1 ?_
 refine pSt (xs := [_]) hO 0 tZ3 rfl (fun G hO => pE (gn (lsq (lrg ?_))))
 refine pFL tF71_2 hO 2 (.int _ _) tA3 ?_
 refine pF tF58_2 ?_
 refine pSt (xs := [_]) hO 0 tZ3 rfl (fun G hO => pE (gn (lsq (lrg ?_))))
 refine pFL tF71_3 hO 2 (.int _ _) tA3 ?_
 refine pF tF58_3 ?_
 refine pSt (xs := [_]) hO 0 tZ3 rfl (fun G hO => pE (gn (lsq (lrg ?_))))
 refine pLs hO 0 [_, _, _, _] tA58 tZ58 ?_
 refine pSt (xs := [_, _, _, _]) hO 1 tZ58 rfl (fun G hO => pE (gn (lrt ?_)))
 replace hk := Option.some.inj hk; subst hk; exact finZ hO (fz_agg (n := 2) (fz_c (fz_str _) (fz_c (fz_int _ _) (fz_c (fz_int _ _) (fz_c (fz_int _ _) (fz_n)))))) (resS hO 1 [_, _, _, _] tA58 tZ58 resN)
def f21_L1 (aA0 : List Piece) : ((List Piece) × Int) → Option (((List Piece) × Int) ⊕ (List Piece)) := fun s =>
 (bif decide (s.2 < (aA0.length : Int)) then ((getI aA0 s.2).bind fun c5 => ((f41 c5).bind fun v6 => ((getI s.1 s.2).bind fun c7 => some (.inl (s.1.set s.2.toNat v6, w64 (s.2 + (1:Int))))))) else ((some s.1).map Sum.inr))
def f21 (aA0 : List Piece) : Option (List Piece) :=
 ((makeB 40 (aA0.length : Int)).bind fun m1 => (loopO (f21_L1 aA0) (List.replicate m1 (⟨ByteArray.empty, 0, 0, 0⟩ : Piece), (0:Int))))
theorem f21_run {aA0 : List Piece} {r : (List Piece)} {l1 : Nat} (hk : f21 aA0 = some r) (hlk : 0 < lk.length := by simp) : ∃ v H1, runL Try.prog hh 21 [litL l1 0 aA0] H lk = some (v, H1) ∧ FreshL H r v H1 := by
 refine run_startR Try.func21 rfl Try.ntmps21 Try.results21 rfl rfl ?_
 have hO := Owns.nil H
 unfold f21 at hk
 refine lsq (lrg (pA (.tl 0 []) (pE (gn (lsq (lrg ?_))))))
 refine pM (.lit _ _ _) ?_
 refine pLen tS22 (bk hk fun m1 hm1 hk => ?_)
 refine pMk hO hm1 (⟨ByteArray.empty, 0, 0, 0⟩ : Piece) tE38 tZ58 tB58 t058 (fun b2 G hO => ?_)
 refine pA (.sl _ _ _) (pE (gn (lsq (lsq (lrg ?_)))))
 refine pA (.int _ _) (pE (gn (lbl ?_)))
 refine wpL_loopO (F := f21_L1 aA0) (fun s S' => ∃ (J : Nat → V) (G : Heap), s.1.length = m1 ∧ Owns H G [.blk b2 (.cells 4 (flatL 0 s.1))] ∧ S' = ⟨hav [(0, litL l1 0 aA0), (3, .sl b2 0 m1), (4, iv s.2)] J, G⟩) hk ⟨_, _, List.length_replicate, hO, sh⟩ ?_
 rintro ⟨x3, x4⟩ _ y1 ⟨J, G, hl3, hO, rfl⟩ hk hx1
 refine lsq (lsq (lrg (pM (.int _ _) ?_)))
 refine pM (.lit _ _ _) ?_
 refine pLen tS22 ?_
 refine pBi (pE (gn (lck hk (fun hk => ?_) (fun hk => ?_))))
 ·refine lsk (gn (lsq (lbl (lrg (pM (.sl _ _ _) ?_)))))
  refine pM (.int _ _) ?_
  refine pM (.lit _ _ _) ?_
  refine pM (.int _ _) (bk hk fun c5 hc5 hk => ?_)
  refine pX hc5 tE22 tZ71 ?_
  refine pLp (.agg [_, _, _, _]) (rd2 (lm := 0) (off := 0) hc5 tA71 tZ71) (bk hk fun v6 hv6 hk => ?_)
  refine pCall (fun _ => f41_run hv6) (bk hk fun c7 hc7 hk => ?_)
  refine pXm hl3 hc7 tE38 tZ58 ?_
  refine pSm hO 0 hc7 tZ58 rfl v6 (.agg [_, _, _, _]) (fun G hO => pE (bn (gn (lrg ?_))))
  refine pM (.int _ _) ?_
  refine pBi ?_
  refine pA (.int _ _) (pE (gn ?_))
  cases hk; exact ⟨_, rfl, _, _, (List.length_set.trans hl3), hO, sh⟩
 ·refine lex (ge (ge (be (gn (have hk := lx hx1 hk; lsq (lrg (pM (.sl _ _ _) ?_)))))))
  refine pA (.sl _ _ _) (pE (gn (lrt ?_)))
  replace hk := Option.some.inj hk; subst hk; exact finThL hO (th_made (xs := x3) hl3 hlk 0) (resT (.sl _ _ _) resN)
def f76 (aA0 : End) : Option End :=
 some aA0
theorem f76_run {aA0 : End} {r : End} (hk : f76 aA0 = some r) (hlk : 0 < lk.length := by simp) : runL Try.prog hh 76 [.agg [iv aA0.Piece, iv aA0.Side]] H lk = some (.agg [iv r.Piece, iv r.Side], H) := by
 refine run_start Try.func76 rfl Try.ntmps76 Try.results76 rfl rfl fun hO => ?_
 unfold f76 at hk
 refine lsq (lrg (pBox (cs := [_, _]) hO tZ119 (fun b1 G hO => pNew hO tZ106 t0106 (fun b2 G hO => pE (gn (lsq (lrg (pNew hO tZ106 t0106 (fun b3 G hO => pE (gn (lsq (lrg ?_))))))))))))
 refine pFL tF119_0 hO 2 (.int _ _) tA3 ?_
 refine pF tF106_0 ?_
 refine pSt (xs := [_]) hO 0 tZ3 rfl (fun G hO => pE (gn (lsq (lrg ?_))))
 refine pFL tF119_1 hO 2 (.int _ _) tA3 ?_
 refine pF tF106_1 ?_
 refine pSt (xs := [_]) hO 0 tZ3 rfl (fun G hO => pE (gn (lsq (lrg ?_))))
 refine pLs hO 0 [_, _] tA106 tZ106 ?_
 refine pSt (xs := [_, _]) hO 1 tZ106 rfl (fun G hO => pE (gn (lrt ?_)))
 replace hk := Option.some.inj hk; subst hk; exact finZ hO (fz_agg (n := 2) (fz_c (fz_int _ _) (fz_c (fz_int _ _) (fz_n)))) (resS hO 1 [_, _] tA106 tZ106 resN)
def f59_L1 (aA0 : List End) : ((List End) × Int) → Option (((List End) × Int) ⊕ (List End)) := fun s =>
 (bif decide (s.2 < (aA0.length : Int)) then ((getI aA0 s.2).bind fun c5 => ((f76 c5).bind fun v6 => ((getI s.1 s.2).bind fun c7 => some (.inl (s.1.set s.2.toNat v6, w64 (s.2 + (1:Int))))))) else ((some s.1).map Sum.inr))
def f59 (aA0 : List End) : Option (List End) :=
 ((makeB 16 (aA0.length : Int)).bind fun m1 => (loopO (f59_L1 aA0) (List.replicate m1 (⟨0, 0⟩ : End), (0:Int))))
theorem f59_run {aA0 : List End} {r : (List End)} {l1 : Nat} (hk : f59 aA0 = some r) (hlk : 0 < lk.length := by simp) : ∃ v H1, runL Try.prog hh 59 [litL l1 0 aA0] H lk = some (v, H1) ∧ FreshL H r v H1 := by
 refine run_startR Try.func59 rfl Try.ntmps59 Try.results59 rfl rfl ?_
 have hO := Owns.nil H
 unfold f59 at hk
 refine lsq (lrg (pA (.tl 0 []) (pE (gn (lsq (lrg ?_))))))
 refine pM (.lit _ _ _) ?_
 refine pLen tS73 (bk hk fun m1 hm1 hk => ?_)
 refine pMk hO hm1 (⟨0, 0⟩ : End) tE78 tZ106 tB106 t0106 (fun b2 G hO => ?_)
 refine pA (.sl _ _ _) (pE (gn (lsq (lsq (lrg ?_)))))
 refine pA (.int _ _) (pE (gn (lbl ?_)))
 refine wpL_loopO (F := f59_L1 aA0) (fun s S' => ∃ (J : Nat → V) (G : Heap), s.1.length = m1 ∧ Owns H G [.blk b2 (.cells 2 (flatL 0 s.1))] ∧ S' = ⟨hav [(0, litL l1 0 aA0), (3, .sl b2 0 m1), (4, iv s.2)] J, G⟩) hk ⟨_, _, List.length_replicate, hO, sh⟩ ?_
 rintro ⟨x3, x4⟩ _ y1 ⟨J, G, hl3, hO, rfl⟩ hk hx1
 refine lsq (lsq (lrg (pM (.int _ _) ?_)))
 refine pM (.lit _ _ _) ?_
 refine pLen tS73 ?_
 refine pBi (pE (gn (lck hk (fun hk => ?_) (fun hk => ?_))))
 ·refine lsk (gn (lsq (lbl (lrg (pM (.sl _ _ _) ?_)))))
  refine pM (.int _ _) ?_
  refine pM (.lit _ _ _) ?_
  refine pM (.int _ _) (bk hk fun c5 hc5 hk => ?_)
  refine pX hc5 tE73 tZ119 ?_
  refine pLp (.agg [_, _]) (rd2 (lm := 0) (off := 0) hc5 tA119 tZ119) (bk hk fun v6 hv6 hk => ?_)
  refine pCall (fun _ => f76_run hv6) (bk hk fun c7 hc7 hk => ?_)
  refine pXm hl3 hc7 tE78 tZ106 ?_
  refine pSm hO 0 hc7 tZ106 rfl v6 (.agg [_, _]) (fun G hO => pE (bn (gn (lrg ?_))))
  refine pM (.int _ _) ?_
  refine pBi ?_
  refine pA (.int _ _) (pE (gn ?_))
  cases hk; exact ⟨_, rfl, _, _, (List.length_set.trans hl3), hO, sh⟩
 ·refine lex (ge (ge (be (gn (have hk := lx hx1 hk; lsq (lrg (pM (.sl _ _ _) ?_)))))))
  refine pA (.sl _ _ _) (pE (gn (lrt ?_)))
  replace hk := Option.some.inj hk; subst hk; exact finThL hO (th_made (xs := x3) hl3 hlk 0) (resT (.sl _ _ _) resN)
def f42 (aA0 : Joint) : Option Joint :=
 ((f59 aA0.Ends).bind fun v4 => some ({ Kind := aA0.Kind, Name := aA0.Name, Ends := v4 } : Joint))
theorem f42_run {aA0 : Joint} {r : Joint} {l1 : Nat} (hk : f42 aA0 = some r) (hlk : 0 < lk.length := by simp) : ∃ v H1, runL Try.prog hh 42 [.agg [iv aA0.Kind, .str aA0.Name, litL l1 0 aA0.Ends]] H lk = some (v, H1) ∧ FreshS H r v H1 := by
 refine run_startR Try.func42 rfl Try.ntmps42 Try.results42 rfl rfl ?_
 have hO := Owns.nil H
 unfold f42 at hk
 refine lsq (lrg (pBox (cs := [_, _, _]) hO tZ75 (fun b1 G hO => pNew hO tZ80 t080 (fun b2 G hO => pE (gn (lsq (lrg (pNew hO tZ80 t080 (fun b3 G hO => pE (gn (lsq (lrg ?_))))))))))))
 refine pFL tF75_0 hO 2 (.int _ _) tA3 ?_
 refine pF tF80_0 ?_
 refine pSt (xs := [_]) hO 0 tZ3 rfl (fun G hO => pE (gn (lsq (lrg ?_))))
 refine pFL tF75_1 hO 2 (.str _) tA9 ?_
 refine pF tF80_1 ?_
 refine pSt (xs := [_]) hO 0 tZ9 rfl (fun G hO => pE (gn (lsq (lrg ?_))))
 refine pFL tF75_2 hO 2 (.lit _ _ _) tA73 (bk hk fun v4 hv4 hk => ?_)
 refine pCN hO (fun _ => f59_run hv4) (fun u5 F5 G hO => ?_)
 refine pF tF80_2 ?_
 have hc6 := tl_cells hO (j := 0) rfl
 refine pSt (xs := [_]) hO 1 tZ78 rfl (fun G hO => ?_) (h3 := hc6.1) (h6 := one_cell hc6.2)
 refine pE (gn (lsq (lrg (pLs hO 1 [_, _, _] tA80 tZ80 ?_))))
 have hc7 := tl_cells hO (j := 0) rfl
 refine pSt (xs := [_, _, _]) hO 2 tZ80 rfl (fun G hO => ?_) (h6 := (all_c rfl (all_c rfl (all_c hc7.2 all_n))))
 refine pE (gn (lrt ?_))
 replace hk := Option.some.inj hk; subst hk; exact finThS hO (th_Joint (x := ({ Kind := aA0.Kind, Name := aA0.Name, Ends := v4 } : Joint)) (th_pair (c1 := [_]) (th_int aA0.Kind) (th_pair (c1 := [_]) (th_str aA0.Name) (th_tree (x := v4) 0)))) (resS hO 2 [_, _, _] tA80 tZ80 resN)
def f22_L1 (aA0 : List Joint) : ((List Joint) × Int) → Option (((List Joint) × Int) ⊕ (List Joint)) := fun s =>
 (bif decide (s.2 < (aA0.length : Int)) then ((getI aA0 s.2).bind fun c7 => ((f42 c7).bind fun v8 => ((getI s.1 s.2).bind fun c10 => some (.inl (s.1.set s.2.toNat v8, w64 (s.2 + (1:Int))))))) else ((some s.1).map Sum.inr))
def f22 (aA0 : List Joint) : Option (List Joint) :=
 ((makeB 48 (aA0.length : Int)).bind fun m1 => (loopO (f22_L1 aA0) (List.replicate m1 (⟨0, ByteArray.empty, []⟩ : Joint), (0:Int))))
theorem f22_run {aA0 : List Joint} {r : (List Joint)} {l1 m2 : Nat} (hk : f22 aA0 = some r) (hlk : 0 < lk.length := by simp) : ∃ v H1, runL Try.prog hh 22 [litL l1 m2 aA0] H lk = some (v, H1) ∧ FreshL H r v H1 := by
 refine run_startR Try.func22 rfl Try.ntmps22 Try.results22 rfl rfl ?_
 have hO := Owns.nil H
 unfold f22 at hk
 refine lsq (lrg (pA (.tl 0 []) (pE (gn (lsq (lrg ?_))))))
 refine pM (.lit _ _ _) ?_
 refine pLen tS23 (bk hk fun m1 hm1 hk => ?_)
 refine pMkT hO hm1 (⟨0, ByteArray.empty, []⟩ : Joint) tE39 tZ80 tB80 t080 (fun G => (show GoM.tr G (⟨0, ByteArray.empty, []⟩ : Joint) [iv 0, .str ByteArray.empty, (.tl 0 [])] [] from ⟨[_], _, [], [], rfl, rfl, ⟨rfl, rfl⟩, ⟨[_], _, [], [], rfl, rfl, ⟨rfl, rfl⟩, .inl ⟨rfl, rfl, rfl⟩⟩⟩)) (fun b2 G hO => ?_)
 refine pA (.sl b2 0 m1) (pE (gn (lsq (lsq (lrg ?_)))))
 refine pA (.int _ _) (pE (gn (lbl ?_)))
 refine wpL_loopO (F := f22_L1 aA0) (fun s S' => ∃ (F5 : List Nat) (J : Nat → V) (G : Heap), Owns H G [Tree [] F5 s.1 [.sl b2 0 m1]] ∧ S' = ⟨hav [(0, litL l1 m2 aA0), (3, (.sl b2 0 m1)), (4, iv s.2)] J, G⟩) hk ⟨[b2], _, _, hO, sh⟩ ?_
 rintro ⟨x4, x6⟩ _ y1 ⟨F5, J, G, hO, rfl⟩ hk hx1
 refine lsq (lsq (lrg (pM (.int _ _) ?_)))
 refine pM (.lit _ _ _) ?_
 refine pLen tS23 ?_
 refine pBi (pE (gn (lck hk (fun hk => ?_) (fun hk => ?_))))
 ·refine lsk (gn (lsq (lbl (lrg (pM (.sl b2 0 m1) ?_)))))
  refine pM (.int _ _) ?_
  refine pM (.lit _ _ _) ?_
  refine pM (.int _ _) (bk hk fun c7 hc7 hk => ?_)
  refine pX hc7 tE23 tZ75 ?_
  refine pLp (.agg [_, _, _]) (rd2 (lm := m2) (off := 0) hc7 tA75 tZ75) (bk hk fun v8 hv8 hk => ?_)
  refine pCNs hO (fun _ => f42_run hv8) (fun u9 F9 G hO => bk hk fun c10 hc10 hk => ?_)
  refine pXT hO 1 hc10 tE39 tZ80 (fun b11 hb11 => ?_)
  refine pSTT hO 0 hb11 hc10 tZ80 rfl (fun G hO => pE (bn (gn (lrg ?_))))
  refine pM (.int _ _) ?_
  refine pBi ?_
  refine pA (.int _ _) (pE (gn ?_))
  cases hk; exact ⟨_, rfl, (F5 ++ F9), _, _, hO, sh⟩
 ·refine lex (ge (ge (be (gn (have hk := lx hx1 hk; lsq (lrg (pM (.sl b2 0 m1) ?_)))))))
  refine pA (.sl b2 0 m1) (pE (gn (lrt ?_)))
  replace hk := Option.some.inj hk; subst hk; exact finThL hO (th_tree (x := x4) 0) (resT (.sl b2 0 m1) resN)
def f7 (aA0 : Net) : Option Net :=
 ((f21 aA0.Pieces).bind fun v4 => ((f22 aA0.Joints).bind fun v7 => some ({ Pieces := v4, Joints := v7 } : Net)))
theorem f7_run {aA0 : Net} {r : Net} {l1 l2 m3 : Nat} (hk : f7 aA0 = some r) (hlk : 0 < lk.length := by simp) : ∃ v H1, runL Try.prog hh 7 [.agg [litL l1 0 aA0.Pieces, litL l2 m3 aA0.Joints]] H lk = some (v, H1) ∧ FreshS H r v H1 := by
 refine run_startR Try.func7 rfl Try.ntmps7 Try.results7 rfl rfl ?_
 have hO := Owns.nil H
 unfold f7 at hk
 refine lsq (lrg (pBox (cs := [_, _]) hO tZ25 (fun b1 G hO => pNew hO tZ41 t041 (fun b2 G hO => pE (gn (lsq (lrg (pNew hO tZ41 t041 (fun b3 G hO => pE (gn (lsq (lrg ?_))))))))))))
 refine pFL tF25_0 hO 2 (.lit _ _ _) tA22 (bk hk fun v4 hv4 hk => ?_)
 refine pCN hO (fun _ => f21_run hv4) (fun u5 F5 G hO => ?_)
 refine pF tF41_0 ?_
 have hc6 := tl_cells hO (j := 0) rfl
 refine pSt (xs := [_]) hO 1 tZ38 rfl (fun G hO => ?_) (h3 := hc6.1) (h6 := one_cell hc6.2)
 refine pE (gn (lsq (lrg (pFL tF25_1 hO 3 (.lit _ _ _) tA23 (bk hk fun v7 hv7 hk => ?_)))))
 refine pCN hO (fun _ => f22_run hv7) (fun u8 F8 G hO => ?_)
 refine pF tF41_1 ?_
 have hc9 := tl_cells hO (j := 0) rfl
 refine pSt (xs := [_]) hO 2 tZ39 rfl (fun G hO => ?_) (h3 := hc9.1) (h6 := one_cell hc9.2)
 refine pE (gn (lsq (lrg (pLs hO 2 [_, _] tA41 tZ41 ?_))))
 have hc10 := tl_cells hO (j := 1) rfl
 have hc11 := tl_cells hO (j := 0) rfl
 refine pSt (xs := [_, _]) hO 3 tZ41 rfl (fun G hO => ?_) (h6 := (all_c hc10.2 (all_c hc11.2 all_n)))
 refine pE (gn (lrt ?_))
 replace hk := Option.some.inj hk; subst hk; exact finThS hO (th_Net (x := ({ Pieces := v4, Joints := v7 } : Net)) (th_pair (c1 := [_]) (th_tree (x := v4) 1) (th_tree (x := v7) 0))) (resS hO 3 [_, _] tA41 tZ41 resN)
def f23 (aA0 : Spot) : Option Spot :=
 some aA0
theorem f23_run {aA0 : Spot} {r : Spot} (hk : f23 aA0 = some r) (hlk : 0 < lk.length := by simp) : runL Try.prog hh 23 [.agg [iv aA0.Piece, iv aA0.At, iv aA0.Way]] H lk = some (.agg [iv r.Piece, iv r.At, iv r.Way], H) := by
 refine run_start Try.func23 rfl Try.ntmps23 Try.results23 rfl rfl fun hO => ?_
 unfold f23 at hk
 refine lsq (lrg (pBox (cs := [_, _, _]) hO tZ27 (fun b1 G hO => pNew hO tZ33 t033 (fun b2 G hO => pE (gn (lsq (lrg (pNew hO tZ33 t033 (fun b3 G hO => pE (gn (lsq (lrg ?_))))))))))))
 refine pFL tF27_0 hO 2 (.int _ _) tA3 ?_
 refine pF tF33_0 ?_
 refine pSt (xs := [_]) hO 0 tZ3 rfl (fun G hO => pE (gn (lsq (lrg ?_))))
 refine pFL tF27_1 hO 2 (.int _ _) tA3 ?_
 refine pF tF33_1 ?_
 refine pSt (xs := [_]) hO 0 tZ3 rfl (fun G hO => pE (gn (lsq (lrg ?_))))
 refine pFL tF27_2 hO 2 (.int _ _) tA3 ?_
 refine pF tF33_2 ?_
 refine pSt (xs := [_]) hO 0 tZ3 rfl (fun G hO => pE (gn (lsq (lrg ?_))))
 refine pLs hO 0 [_, _, _] tA33 tZ33 ?_
 refine pSt (xs := [_, _, _]) hO 1 tZ33 rfl (fun G hO => pE (gn (lrt ?_)))
 replace hk := Option.some.inj hk; subst hk; exact finZ hO (fz_agg (n := 2) (fz_c (fz_int _ _) (fz_c (fz_int _ _) (fz_c (fz_int _ _) (fz_n))))) (resS hO 1 [_, _, _] tA33 tZ33 resN)
def f43 (aA0 : Step) : Option Step :=
 some aA0
theorem f43_run {aA0 : Step} {r : Step} (hk : f43 aA0 = some r) (hlk : 0 < lk.length := by simp) : runL Try.prog hh 43 [.agg [iv aA0.Piece, iv aA0.Way]] H lk = some (.agg [iv r.Piece, iv r.Way], H) := by
 refine run_start Try.func43 rfl Try.ntmps43 Try.results43 rfl rfl fun hO => ?_
 unfold f43 at hk
 refine lsq (lrg (pBox (cs := [_, _]) hO tZ83 (fun b1 G hO => pNew hO tZ55 t055 (fun b2 G hO => pE (gn (lsq (lrg (pNew hO tZ55 t055 (fun b3 G hO => pE (gn (lsq (lrg ?_))))))))))))
 refine pFL tF83_0 hO 2 (.int _ _) tA3 ?_
 refine pF tF55_0 ?_
 refine pSt (xs := [_]) hO 0 tZ3 rfl (fun G hO => pE (gn (lsq (lrg ?_))))
 refine pFL tF83_1 hO 2 (.int _ _) tA3 ?_
 refine pF tF55_1 ?_
 refine pSt (xs := [_]) hO 0 tZ3 rfl (fun G hO => pE (gn (lsq (lrg ?_))))
 refine pLs hO 0 [_, _] tA55 tZ55 ?_
 refine pSt (xs := [_, _]) hO 1 tZ55 rfl (fun G hO => pE (gn (lrt ?_)))
 replace hk := Option.some.inj hk; subst hk; exact finZ hO (fz_agg (n := 2) (fz_c (fz_int _ _) (fz_c (fz_int _ _) (fz_n)))) (resS hO 1 [_, _] tA55 tZ55 resN)
def f24_L1 (aA0 : List Step) : ((List Step) × Int) → Option (((List Step) × Int) ⊕ (List Step)) := fun s =>
 (bif decide (s.2 < (aA0.length : Int)) then ((getI aA0 s.2).bind fun c5 => ((f43 c5).bind fun v6 => ((getI s.1 s.2).bind fun c7 => some (.inl (s.1.set s.2.toNat v6, w64 (s.2 + (1:Int))))))) else ((some s.1).map Sum.inr))
def f24 (aA0 : List Step) : Option (List Step) :=
 ((makeB 16 (aA0.length : Int)).bind fun m1 => (loopO (f24_L1 aA0) (List.replicate m1 (⟨0, 0⟩ : Step), (0:Int))))
theorem f24_run {aA0 : List Step} {r : (List Step)} {l1 : Nat} (hk : f24 aA0 = some r) (hlk : 0 < lk.length := by simp) : ∃ v H1, runL Try.prog hh 24 [litL l1 0 aA0] H lk = some (v, H1) ∧ FreshL H r v H1 := by
 refine run_startR Try.func24 rfl Try.ntmps24 Try.results24 rfl rfl ?_
 have hO := Owns.nil H
 unfold f24 at hk
 refine lsq (lrg (pA (.tl 0 []) (pE (gn (lsq (lrg ?_))))))
 refine pM (.lit _ _ _) ?_
 refine pLen tS28 (bk hk fun m1 hm1 hk => ?_)
 refine pMk hO hm1 (⟨0, 0⟩ : Step) tE34 tZ55 tB55 t055 (fun b2 G hO => ?_)
 refine pA (.sl _ _ _) (pE (gn (lsq (lsq (lrg ?_)))))
 refine pA (.int _ _) (pE (gn (lbl ?_)))
 refine wpL_loopO (F := f24_L1 aA0) (fun s S' => ∃ (J : Nat → V) (G : Heap), s.1.length = m1 ∧ Owns H G [.blk b2 (.cells 2 (flatL 0 s.1))] ∧ S' = ⟨hav [(0, litL l1 0 aA0), (3, .sl b2 0 m1), (4, iv s.2)] J, G⟩) hk ⟨_, _, List.length_replicate, hO, sh⟩ ?_
 rintro ⟨x3, x4⟩ _ y1 ⟨J, G, hl3, hO, rfl⟩ hk hx1
 refine lsq (lsq (lrg (pM (.int _ _) ?_)))
 refine pM (.lit _ _ _) ?_
 refine pLen tS28 ?_
 refine pBi (pE (gn (lck hk (fun hk => ?_) (fun hk => ?_))))
 ·refine lsk (gn (lsq (lbl (lrg (pM (.sl _ _ _) ?_)))))
  refine pM (.int _ _) ?_
  refine pM (.lit _ _ _) ?_
  refine pM (.int _ _) (bk hk fun c5 hc5 hk => ?_)
  refine pX hc5 tE28 tZ83 ?_
  refine pLp (.agg [_, _]) (rd2 (lm := 0) (off := 0) hc5 tA83 tZ83) (bk hk fun v6 hv6 hk => ?_)
  refine pCall (fun _ => f43_run hv6) (bk hk fun c7 hc7 hk => ?_)
  refine pXm hl3 hc7 tE34 tZ55 ?_
  refine pSm hO 0 hc7 tZ55 rfl v6 (.agg [_, _]) (fun G hO => pE (bn (gn (lrg ?_))))
  refine pM (.int _ _) ?_
  refine pBi ?_
  refine pA (.int _ _) (pE (gn ?_))
  cases hk; exact ⟨_, rfl, _, _, (List.length_set.trans hl3), hO, sh⟩
 ·refine lex (ge (ge (be (gn (have hk := lx hx1 hk; lsq (lrg (pM (.sl _ _ _) ?_)))))))
  refine pA (.sl _ _ _) (pE (gn (lrt ?_)))
  replace hk := Option.some.inj hk; subst hk; exact finThL hO (th_made (xs := x3) hl3 hlk 0) (resT (.sl _ _ _) resN)
def f8 (aA0 : Train) : Option Train :=
 ((f23 aA0.Front).bind fun v4 => ((f24 aA0.Back).bind fun v5 => some ({ Front := v4, Long := aA0.Long, Back := v5 } : Train)))
theorem f8_run {aA0 : Train} {r : Train} {l1 : Nat} (hk : f8 aA0 = some r) (hlk : 0 < lk.length := by simp) : ∃ v H1, runL Try.prog hh 8 [.agg [iv aA0.Front.Piece, iv aA0.Front.At, iv aA0.Front.Way, iv aA0.Long, litL l1 0 aA0.Back]] H lk = some (v, H1) ∧ FreshS H r v H1 := by
 refine run_startR Try.func8 rfl Try.ntmps8 Try.results8 rfl rfl ?_
 have hO := Owns.nil H
 unfold f8 at hk
 refine lsq (lrg (pBox (cs := [_, _, _, _, _]) hO tZ30 (fun b1 G hO => pNew hO tZ36 t036 (fun b2 G hO => pE (gn (lsq (lrg (pNew hO tZ36 t036 (fun b3 G hO => pE (gn (lsq (lrg ?_))))))))))))
 refine pF tF30_0 ?_
 refine pLs hO 2 [_, _, _] tA27 tZ27 (bk hk fun v4 hv4 hk => ?_)
 refine pCall (fun _ => f23_run hv4) ?_
 refine pF tF36_0 ?_
 refine pSt (xs := [_, _, _]) hO 0 tZ33 rfl (fun G hO => pE (gn (lsq (lrg ?_))))
 refine pFL tF30_1 hO 2 (.int _ _) tA3 ?_
 refine pF tF36_1 ?_
 refine pSt (xs := [_]) hO 0 tZ3 rfl (fun G hO => pE (gn (lsq (lrg ?_))))
 refine pFL tF30_2 hO 2 (.lit _ _ _) tA28 (bk hk fun v5 hv5 hk => ?_)
 refine pCN hO (fun _ => f24_run hv5) (fun u6 F6 G hO => ?_)
 refine pF tF36_2 ?_
 have hc7 := tl_cells hO (j := 0) rfl
 refine pSt (xs := [_]) hO 1 tZ34 rfl (fun G hO => ?_) (h3 := hc7.1) (h6 := one_cell hc7.2)
 refine pE (gn (lsq (lrg (pLs hO 1 [_, _, _, _, _] tA36 tZ36 ?_))))
 have hc8 := tl_cells hO (j := 0) rfl
 refine pSt (xs := [_, _, _, _, _]) hO 2 tZ36 rfl (fun G hO => ?_) (h6 := (all_c rfl (all_c rfl (all_c rfl (all_c rfl (all_c hc8.2 all_n))))))
 refine pE (gn (lrt ?_))
 replace hk := Option.some.inj hk; subst hk; exact finThS hO (th_Train (x := ({ Front := v4, Long := aA0.Long, Back := v5 } : Train)) (th_pair (c1 := [_, _, _]) (th_fl (α := Spot) v4) (th_pair (c1 := [_]) (th_int aA0.Long) (th_tree (x := v5) 0)))) (resS hO 2 [_, _, _, _, _] tA36 tZ36 resN)
def f69_L1 (aS0 : ByteArray) : Int → Option (Int ⊕ Bool) := fun s =>
 (bif decide (s < (aS0.size : Int)) then ((byteAt aS0 s).bind fun c2 => (bif !(((decide (c2 ≥ (97:Int)) && decide (c2 ≤ (122:Int))) || (decide (c2 ≥ (48:Int)) && decide (c2 ≤ (57:Int)))) || (c2 == (95:Int))) then ((some false).map Sum.inr) else some (.inl (w64 (s + (1:Int)))))) else ((some (decide ((aS0.size : Int) ≥ (1:Int)) && decide ((aS0.size : Int) ≤ (20:Int)))).map Sum.inr))
def f69 (aS0 : ByteArray) : Option Bool :=
 (loopO (f69_L1 aS0) ((0:Int)))
theorem f69_run {aS0 : ByteArray} {r : Bool} (hk : f69 aS0 = some r) (hlk : 0 < lk.length := by simp) : runL Try.prog hh 69 [.str aS0] H lk = some (.bool r, H) := by
 refine run_start Try.func69 rfl Try.ntmps69 Try.results69 rfl rfl fun hO => ?_
 unfold f69 at hk
 refine lsq (lrg (pA (.bool _) (pE (gn (lsq (lsq (lrg ?_)))))))
 refine pA (.int _ _) (pE (gn (lbl ?_)))
 refine wpL_loopO (F := f69_L1 aS0) (fun s S' => ∃ (J : Nat → V) (G : Heap), Owns H G [] ∧ S' = ⟨hav [(0, .str aS0), (3, iv s)] J, G⟩) hk ⟨_, _, hO, sh⟩ ?_
 rintro x1 _ y1 ⟨J, G, hO, rfl⟩ hk hx1
 refine lsq (lsq (lrg (pM (.int _ _) ?_)))
 refine pM (.str _) ?_
 refine pLen tS9 ?_
 refine pBi (pE (gn (lck hk (fun hk => ?_) (fun hk => ?_))))
 ·refine lsk (gn (lsq (lbl (lsq (lrg (pM (.str _) ?_))))))
  refine pM (.int _ _) (bk hk fun c2 hc2 hk => ?_)
  refine pIx Try.underlying9 hc2 ?_
  refine pA (.int _ _) (pE (gn (lsq (lrg ?_))))
  refine pM (.int _ _) ?_
  refine pBi ?_
  refine pM (.bool _) ?_
  refine wpR_mid (l1 := [_, _, _]) (fun S' => ∃ J, S' = ⟨hav [(0, .str aS0), (3, iv x1), (4, .int .u8 c2), (19, .bool (decide (c2 ≥ (97:Int)) && decide (c2 ≤ (122:Int))))] J, G⟩) ?_ ?_
  ·refine bc (b := decide (c2 ≥ (97:Int))) (fun hg => ?_) (fun hg => ?_)
   ·refine pGy hg (pM (.int _ _) (pGy hg ?_))
    refine pBi ?_
    refine pPt hg (.bool _) ?_
    exact pE ⟨_, St.hav _ ⟨rfl, rfl, rfl, by rw [hg]; rfl, trivial⟩⟩
   ·refine pGn hg (pGn hg (pPf hg (.bool _) ?_))
    exact pE ⟨_, St.hav _ ⟨rfl, rfl, rfl, by rw [hg]; rfl, trivial⟩⟩
  ·rintro _ ⟨J, rfl⟩
   refine pM (.bool _) ?_
   refine wpR_mid (l1 := [_, _, _, _, _, _, _]) (fun S' => ∃ J, S' = ⟨hav [(0, .str aS0), (3, iv x1), (4, .int .u8 c2), (27, .bool ((decide (c2 ≥ (97:Int)) && decide (c2 ≤ (122:Int))) || (decide (c2 ≥ (48:Int)) && decide (c2 ≤ (57:Int)))))] J, G⟩) ?_ ?_
   ·refine bc (b := (decide (c2 ≥ (97:Int)) && decide (c2 ≤ (122:Int)))) (fun hg => ?_) (fun hg => ?_)
    ·refine pGn hg (pGn hg (pGn hg (pGu (pGu (pGn hg (pPt hg (.bool _) ?_))))))
     exact pE ⟨_, St.hav _ ⟨rfl, rfl, rfl, by rw [hg]; rfl, trivial⟩⟩
    ·refine pGy hg (pM (.int _ _) (pGy hg ?_))
     refine pBi (pGy hg ?_)
     refine pM (.bool _) ?_
     refine wpR_mid (l1 := [_, _, _]) (fun S' => ∃ J, S' = ⟨hav [(0, .str aS0), (3, iv x1), (4, .int .u8 c2), (20, .bool (decide (c2 ≥ (97:Int)) && decide (c2 ≤ (122:Int)))), (26, .bool (decide (c2 ≥ (48:Int)) && decide (c2 ≤ (57:Int))))] J, G⟩) ?_ ?_
     ·refine bc (b := decide (c2 ≥ (48:Int))) (fun hg2 => ?_) (fun hg2 => ?_)
      ·refine pGy hg2 (pM (.int _ _) (pGy hg2 ?_))
       refine pBi (pGy hg ?_)
       refine pPt hg2 (.bool _) ?_
       exact pE ⟨_, St.hav _ ⟨rfl, rfl, rfl, rfl, by rw [hg2]; rfl, trivial⟩⟩
      ·refine pGn hg2 (pGn hg2 (pGy hg (pPf hg2 (.bool _) ?_)))
       exact pE ⟨_, St.hav _ ⟨rfl, rfl, rfl, rfl, by rw [hg2]; rfl, trivial⟩⟩
     ·rintro _ ⟨J, rfl⟩
      refine pPf hg (.bool _) ?_
      exact pE ⟨_, St.hav _ ⟨rfl, rfl, rfl, by rw [hg]; rfl, trivial⟩⟩
   ·rintro _ ⟨J, rfl⟩
    refine pM (.bool _) ?_
    refine wpR_mid (l1 := [_, _, _]) (fun S' => ∃ J, S' = ⟨hav [(0, .str aS0), (3, iv x1), (31, .bool (((decide (c2 ≥ (97:Int)) && decide (c2 ≤ (122:Int))) || (decide (c2 ≥ (48:Int)) && decide (c2 ≤ (57:Int)))) || (c2 == (95:Int))))] J, G⟩) ?_ ?_
    ·refine bc (b := ((decide (c2 ≥ (97:Int)) && decide (c2 ≤ (122:Int))) || (decide (c2 ≥ (48:Int)) && decide (c2 ≤ (57:Int))))) (fun hg => ?_) (fun hg => ?_)
     ·refine pGn hg (pGn hg (pPt hg (.bool _) ?_))
      exact pE ⟨_, St.hav _ ⟨rfl, rfl, by rw [hg]; rfl, trivial⟩⟩
     ·refine pGy hg (pM (.int _ _) (pGy hg ?_))
      refine pBi ?_
      refine pPf hg (.bool _) ?_
      exact pE ⟨_, St.hav _ ⟨rfl, rfl, by rw [hg]; rfl, trivial⟩⟩
    ·rintro _ ⟨J, rfl⟩
     refine pU (pE (gn (lck hk (fun hk => ?_) (fun hk => ?_))))
     ·refine lsq (lrg (pA (.bool _) (pE (gn (lrt (br (gr (gr (br (gr (have hk := lx hx1 hk; ?_)))))))))))
      cases hk; exact fin0 hO
     ·refine lsk (bn (gn (lrg (pM (.int _ _) ?_))))
      refine pBi ?_
      refine pA (.int _ _) (pE (gn ?_))
      cases hk; exact ⟨_, rfl, _, _, hO, sh⟩
 ·refine lex (ge (ge (be (gn (have hk := lx hx1 hk; lsq (lrg (pM (.str _) ?_)))))))
  refine pLen tS9 ?_
  refine pBi ?_
  refine pM (.bool _) ?_
  refine wpR_mid (l1 := [_, _, _, _]) (fun S' => ∃ J, S' = ⟨hav [(40, .bool (decide ((aS0.size : Int) ≥ (1:Int)) && decide ((aS0.size : Int) ≤ (20:Int))))] J, G⟩) ?_ ?_
  ·refine bc (b := decide ((aS0.size : Int) ≥ (1:Int))) (fun hg => ?_) (fun hg => ?_)
   ·refine pGy hg (pM (.str _) (pGy hg ?_))
    refine pLen tS9 (pGy hg ?_)
    refine pBi ?_
    refine pPt hg (.bool _) ?_
    exact pE ⟨_, St.hav _ ⟨by rw [hg]; rfl, trivial⟩⟩
   ·refine pGn hg (pGn hg (pGn hg (pPf hg (.bool _) ?_)))
    exact pE ⟨_, St.hav _ ⟨by rw [hg]; rfl, trivial⟩⟩
  ·rintro _ ⟨J, rfl⟩
   refine pA (.bool _) (pE (gn (lrt ?_)))
   cases hk; exact fin0 hO
def f70 (aX0 : Int) (aA1 : Int) (aB2 : Int) : Option Bool :=
 some (decide (aX0 ≥ aA1) && decide (aX0 ≤ aB2))
theorem f70_run {aX0 : Int} {aA1 : Int} {aB2 : Int} {r : Bool} (hk : f70 aX0 aA1 aB2 = some r) (hlk : 0 < lk.length := by simp) : runL Try.prog hh 70 [iv aX0, iv aA1, iv aB2] H lk = some (.bool r, H) := by
 refine run_start Try.func70 rfl Try.ntmps70 Try.results70 rfl rfl fun hO => ?_
 unfold f70 at hk
 refine lsq (lrg (pA (.bool _) (pE (gn (lsq (lrg ?_))))))
 refine pM (.int _ _) ?_
 refine pM (.int _ _) ?_
 refine pBi ?_
 refine pM (.bool _) ?_
 refine wpR_mid (l1 := [_, _, _, _]) (fun S' => ∃ J, S' = ⟨hav [(14, .bool (decide (aX0 ≥ aA1) && decide (aX0 ≤ aB2)))] J, H⟩) ?_ ?_
 ·refine bc (b := decide (aX0 ≥ aA1)) (fun hg => ?_) (fun hg => ?_)
  ·refine pGy hg (pM (.int _ _) (pGy hg ?_))
   refine pM (.int _ _) (pGy hg ?_)
   refine pBi ?_
   refine pPt hg (.bool _) ?_
   exact pE ⟨_, St.hav _ ⟨by rw [hg]; rfl, trivial⟩⟩
  ·refine pGn hg (pGn hg (pGn hg (pPf hg (.bool _) ?_)))
   exact pE ⟨_, St.hav _ ⟨by rw [hg]; rfl, trivial⟩⟩
 ·rintro _ ⟨J, rfl⟩
  refine pA (.bool _) (pE (gn (lrt ?_)))
  cases hk; exact fin0 hO
def f83 (aN0 : Net) (aE1 : End) : Option Bool :=
 ((f70 aE1.Piece (0:Int) (w64 ((aN0.Pieces.length : Int) - (1:Int)))).bind fun v3 => ((bif v3 then ((f70 aE1.Side (0:Int) (1:Int)).bind fun v5 => some v5) else some false).bind fun t4 => some t4))
theorem f83_run {aN0 : Net} {aE1 : End} {r : Bool} {l1 l2 m3 : Nat} (hk : f83 aN0 aE1 = some r) (hlk : 0 < lk.length := by simp) : runL Try.prog hh 83 [.agg [litL l1 0 aN0.Pieces, litL l2 m3 aN0.Joints], .agg [iv aE1.Piece, iv aE1.Side]] H lk = some (.bool r, H) := by
 refine run_start Try.func83 rfl Try.ntmps83 Try.results83 rfl rfl fun hO => ?_
 unfold f83 at hk
 refine lsq (lrg (pBox (cs := [_, _]) hO tZ41 (fun b1 G hO => ?_)))
 refine pBox (cs := [_, _]) hO tZ106 (fun b2 G hO => ?_)
 refine pA (.bool _) (pE (gn (lsq (lrg ?_))))
 refine pFL tF106_0 hO 0 (.int _ _) tA3 ?_
 refine pFL tF41_0 hO 1 (.lit _ _ _) tA38 ?_
 refine pLen tS38 ?_
 refine pBi (bk hk fun v3 hv3 hk => ?_)
 refine pCall (fun _ => f70_run hv3) ?_
 refine pM (.bool _) (bk hk fun t4 ht hk => ?_)
 refine wpR_mid (l1 := [_, _, _, _]) (fun S' => ∃ J, S' = ⟨hav [(16, .bool t4)] J, G⟩) ?_ ?_
 ·refine bc (b := v3) (fun hg => ?_) (fun hg => ?_)
  ·replace hk := ct hg ht
   refine pGy hg (pF tF106_1 (pGy hg ?_))
   refine pLo hO 0 (.int _ _) tA3 (pGy hg (bk hk fun v5 hv5 hk => ?_))
   refine pCall (fun _ => f70_run hv5) ?_
   refine pPt hg (.bool _) ?_
   cases hk; exact pE ⟨_, sh⟩
  ·replace hk := cf hg ht
   refine pGn hg (pGn hg (pGn hg (pPf hg (.bool _) ?_)))
   cases hk; exact pE ⟨_, sh⟩
 ·rintro _ ⟨J, rfl⟩
  refine pA (.bool _) (pE (gn (lrt ?_)))
  cases hk; exact fin0 hO
def f71_L2 (aN0 : Net) (aI1 : Int) (c2 : Joint) : Int → Option (Int ⊕ Int) := fun s =>
 (bif decide (s < aI1) then ((getI aN0.Joints s).bind fun c11 => (bif (c11.Name.toList == c2.Name.toList) then ((some (4:Int)).map Sum.inr) else some (.inl (w64 (s + (1:Int)))))) else ((some (0:Int)).map Sum.inr))
def f71_L1 (aN0 : Net) (aI1 : Int) (c2 : Joint) : Int → Option (Int ⊕ Int) := fun s =>
 (bif decide (s < (c2.Ends.length : Int)) then ((getI c2.Ends s).bind fun c6 => ((f83 aN0 c6).bind fun v8 => (bif !v8 then ((some (3:Int)).map Sum.inr) else some (.inl (w64 (s + (1:Int))))))) else ((bif decide (c2.Kind < (3:Int)) then (bif !(c2.Name.toList == ({ data := #[] } : ByteArray).toList) then some (4:Int) else some (0:Int)) else ((f69 c2.Name).bind fun v9 => (bif !v9 then some (4:Int) else (loopO (f71_L2 aN0 aI1 c2) ((0:Int)))))).map Sum.inr))
def f71 (aN0 : Net) (aI1 : Int) : Option Int :=
 ((getI aN0.Joints aI1).bind fun c2 => ((f70 c2.Kind (1:Int) (4:Int)).bind fun v4 => (bif (!v4 || ((c2.Ends.length : Int) != c2.Kind)) then some (3:Int) else (loopO (f71_L1 aN0 aI1 c2) ((0:Int))))))
theorem f71_run {aN0 : Net} {aI1 : Int} {r : Int} {l1 l2 m3 : Nat} (hk : f71 aN0 aI1 = some r) (hlk : 0 < lk.length := by simp) : runL Try.prog hh 71 [.agg [litL l1 0 aN0.Pieces, litL l2 m3 aN0.Joints], iv aI1] H lk = some (iv r, H) := by
 refine run_start Try.func71 rfl Try.ntmps71 Try.results71 rfl rfl fun hO => ?_
 unfold f71 at hk
 refine lsq (lrg (pBox (cs := [_, _]) hO tZ41 (fun b1 G hO => ?_)))
 refine pA (.int _ _) (pE (gn (lsq (lrg ?_))))
 refine pFL tF41_1 hO 0 (.lit _ _ _) tA39 ?_
 refine pM (.int _ _) (bk hk fun c2 hc2 hk => ?_)
 refine pX hc2 tE39 tZ80 ?_
 refine pLp (.agg [_, _, _]) (rd2 (lm := m3) (off := 0) hc2 tA80 tZ80) (pNew hO tZ80 t080 (fun b3 G hO => ?_))
 refine pSt (xs := [_, _, _]) hO 0 tZ80 rfl (fun G hO => pE (gn (lsq (lsq (lrg ?_)))))
 refine pFL tF80_0 hO 0 (.int _ _) tA3 (bk hk fun v4 hv4 hk => ?_)
 refine pCall (fun _ => f70_run hv4) ?_
 refine pU ?_
 refine pM (.bool _) ?_
 refine wpR_mid (l1 := [_, _, _, _, _, _, _]) (fun S' => ∃ J, S' = ⟨hav [(1, iv aI1), (2, .ptr b1 0), (5, .ptr b3 0), (25, .bool (!v4 || ((c2.Ends.length : Int) != c2.Kind)))] J, G⟩) ?_ ?_
 ·refine bc (b := !v4) (fun hg => ?_) (fun hg => ?_)
  ·refine pGn hg (pGn hg (pGn hg (pGn hg (pGn hg (pGn hg (pPt hg (.bool _) ?_))))))
   exact pE ⟨_, St.hav _ ⟨rfl, rfl, rfl, by rw [hg]; rfl, trivial⟩⟩
  ·refine pGy hg (pF tF80_2 (pGy hg ?_))
   refine pLo hO 0 (.lit _ _ _) tA78 (pGy hg ?_)
   refine pLen tS78 (pGy hg ?_)
   refine pF tF80_0 (pGy hg ?_)
   refine pLo hO 0 (.int _ _) tA3 (pGy hg ?_)
   refine pBi ?_
   refine pPf hg (.bool _) ?_
   exact pE ⟨_, St.hav _ ⟨rfl, rfl, rfl, by rw [hg]; rfl, trivial⟩⟩
 ·rintro _ ⟨J, rfl⟩
  refine pE (gn (lck hk (fun hk => ?_) (fun hk => ?_)))
  ·refine lsq (lrg (pA (.int _ _) (pE (gn (lrt (gr ?_))))))
   cases hk; exact fin0 hO
  ·refine lsk (gn (lsq (lsq (lrg (pFL tF80_2 hO 0 (.lit _ _ _) tA78 ?_)))))
   refine pLen tS78 ?_
   refine pM (.int _ _) (pE (gn (lbl ?_)))
   refine wpL_loopO (F := f71_L1 aN0 aI1 c2) (fun s S' => ∃ (J : Nat → V) (G : Heap), Owns H G [.blk b3 (.cells 3 [iv c2.Kind, .str c2.Name, litL m3 0 c2.Ends]), .blk b1 (.cells 2 [litL l1 0 aN0.Pieces, litL l2 m3 aN0.Joints])] ∧ S' = ⟨hav [(1, iv aI1), (2, .ptr b1 0), (5, .ptr b3 0), (27, litL m3 0 c2.Ends), (28, iv (c2.Ends.length : Int)), (29, iv s)] J, G⟩) hk ⟨_, _, hO, sh⟩ ?_
   rintro x5 _ y1 ⟨J, G, hO, rfl⟩ hk hx1
   refine lsq (lrg (pBi (pE (gn (lsq (lck hk (fun hk => ?_) (fun hk => ?_)))))))
   ·refine lsk (gn (lsq (lbl (lsq (lrg (bk hk fun c6 hc6 hk => pX hc6 tE78 tZ106 ?_))))))
    refine pLp (.agg [_, _]) (rd2 (lm := 0) (off := 0) hc6 tA106 tZ106) (pNew hO tZ106 t0106 (fun b7 G hO => ?_))
    refine pSt (xs := [_, _]) hO 0 tZ106 rfl (fun G hO => pE (gn (lsq (lrg ?_))))
    refine pLs hO 2 [_, _] tA41 tZ41 ?_
    refine pLs hO 0 [_, _] tA106 tZ106 (bk hk fun v8 hv8 hk => ?_)
    refine pCall (fun _ => f83_run hv8) ?_
    refine pU (pE (gn (lck hk (fun hk => ?_) (fun hk => ?_))))
    ·refine lsq (lrg (pA (.int _ _) (pE (gn (lrt (br (gr (gr (br (gr (have hk := lx hx1 hk; ?_)))))))))))
     cases hk; exact fin0 hO
    ·refine lsk (bn (gn (lrg (pBi ?_))))
     refine pM (.int _ _) (pE (gn ?_))
     cases hk; exact ⟨_, rfl, _, _, (pk hO [1, 2]), sh⟩
   ·refine lex (ge (ge (be (gn (have hk := lx hx1 hk; lsq (lsq (lrg (pFL tF80_0 hO 0 (.int _ _) tA3 ?_))))))))
    refine pBi (pE (gn (lck hk (fun hk => ?_) (fun hk => ?_))))
    ·refine lsq (lsq (lrg (pFL tF80_1 hO 0 (.str _) tA9 ?_)))
     refine pB (a := .str _) (b := .str _) (pE (gn (lck hk (fun hk => ?_) (fun hk => ?_))))
     ·refine lsq (lrg (pA (.int _ _) (pE (gn (lrt (gr (gr ?_)))))))
      cases hk; exact fin0 hO
     ·refine lsk (gn (lsq (lrg (pA (.int _ _) (pE (gn (lrt (gr ?_))))))))
      cases hk; exact fin0 hO
    ·refine lsk (gn (lsq (lsq (lrg (pFL tF80_1 hO 0 (.str _) tA9 (bk hk fun v9 hv9 hk => ?_))))))
     refine pCall (fun _ => f69_run hv9) ?_
     refine pU (pE (gn (lck hk (fun hk => ?_) (fun hk => ?_))))
     ·refine lsq (lrg (pA (.int _ _) (pE (gn (lrt (gr ?_))))))
      cases hk; exact fin0 hO
     ·refine lsk (gn (lsq (lsq (lrg (pA (.int _ _) (pE (gn (lbl ?_))))))))
      refine wpL_loopO (F := f71_L2 aN0 aI1 c2) (fun s S' => ∃ (J : Nat → V) (G : Heap), Owns H G [.blk b3 (.cells 3 [iv c2.Kind, .str c2.Name, litL m3 0 c2.Ends]), .blk b1 (.cells 2 [litL l1 0 aN0.Pieces, litL l2 m3 aN0.Joints])] ∧ S' = ⟨hav [(1, iv aI1), (2, .ptr b1 0), (5, .ptr b3 0), (8, iv s)] J, G⟩) hk ⟨_, _, hO, sh⟩ ?_
      rintro x10 _ y1 ⟨J, G, hO, rfl⟩ hk hx1
      refine lsq (lsq (lrg (pM (.int _ _) ?_)))
      refine pM (.int _ _) ?_
      refine pBi (pE (gn (lck hk (fun hk => ?_) (fun hk => ?_))))
      ·refine lsk (gn (lsq (lbl (lsq (wpL_drw [(0, true), (1, true), (2, true), (3, true), (4, true), (5, true), (6, true), (7, true), (8, false)] [_, _, _, _, _, _, _, _, _] (by decide +kernel) (by rfl) ?_)))))
       refine pFL tF41_1 hO 1 (.lit _ _ _) tA39 ?_
       refine pM (.int _ _) (bk hk fun c11 hc11 hk => ?_)
       refine pX hc11 tE39 tZ80 ?_
       refine pF tF80_1 ?_
       refine pLp (.str _) (rd1 (lm := m3) (off := 1) hc11 tA9) ?_
       refine pFL tF80_1 hO 0 (.str _) tA9 ?_
       refine pB (a := .str _) (b := .str _) (pE (gn (lck hk (fun hk => ?_) (fun hk => ?_))))
       ·refine lsq (lrg (pA (.int _ _) (pE (gn (lrt (br (gr (gr (br (gr (have hk := lx hx1 hk; ?_)))))))))))
        cases hk; exact fin0 hO
       ·refine lsk (bn (gn (lrg (pM (.int _ _) ?_))))
        refine pBi ?_
        refine pA (.int _ _) (pE (gn ?_))
        cases hk; exact ⟨_, rfl, _, _, hO, sh⟩
      ·refine lex (ge (ge (be (gn (have hk := lx hx1 hk; lsq (lrg (pA (.int _ _) (pE (gn (lrt ?_))))))))))
       cases hk; exact fin0 hO
def f72_k3 (x8 : Int) (x9 : Int) : Option ((Int × Int) ⊕ ((Int × Int) ⊕ Int)) :=
 some (.inl (x9, w64 (x8 + (1:Int))))
def f72_L2 (aE1 : End) (x4 : Int) (c5 : Joint) : (Int × Int) → Option ((Int × Int) ⊕ ((Int × Int) ⊕ Int)) := fun s =>
 (bif decide (s.2 < (c5.Ends.length : Int)) then ((getI c5.Ends s.2).bind fun c10 => (bif ((c10.Piece == aE1.Piece) && ((c10.Side == aE1.Side) && true)) then (f72_k3 s.2 (w64 (s.1 + (1:Int)))) else (f72_k3 s.2 s.1))) else ((some (.inl (s.1, w64 (x4 + (1:Int))))).map Sum.inr))
def f72_L1 (aN0 : Net) (aE1 : End) : (Int × Int) → Option ((Int × Int) ⊕ Int) := fun s =>
 (bif decide (s.2 < (aN0.Joints.length : Int)) then ((getI aN0.Joints s.2).bind fun c5 => (loopO (f72_L2 aE1 s.2 c5) (s.1, (0:Int)))) else ((some s.1).map Sum.inr))
def f72 (aN0 : Net) (aE1 : End) : Option Int :=
 (loopO (f72_L1 aN0 aE1) ((0:Int), (0:Int)))
theorem f72_run {aN0 : Net} {aE1 : End} {r : Int} {l1 l2 m3 : Nat} (hk : f72 aN0 aE1 = some r) (hlk : 0 < lk.length := by simp) : runL Try.prog hh 72 [.agg [litL l1 0 aN0.Pieces, litL l2 m3 aN0.Joints], .agg [iv aE1.Piece, iv aE1.Side]] H lk = some (iv r, H) := by
 refine run_start Try.func72 rfl Try.ntmps72 Try.results72 rfl rfl fun hO => ?_
 unfold f72 at hk
 refine lsq (lrg (pBox (cs := [_, _]) hO tZ41 (fun b1 G hO => ?_)))
 refine pBox (cs := [_, _]) hO tZ106 (fun b2 G hO => ?_)
 refine pA (.int _ _) (pE (gn (lsq (lrg ?_))))
 refine pA (.int _ _) (pE (gn (lsq (lsq (lrg ?_)))))
 refine pFL tF41_1 hO 1 (.lit _ _ _) tA39 ?_
 refine pLen tS39 ?_
 refine pM (.int _ _) (pE (gn (lbl ?_)))
 refine wpL_loopO (F := f72_L1 aN0 aE1) (fun s S' => ∃ (J : Nat → V) (G : Heap), Owns H G [.blk b2 (.cells 2 [iv aE1.Piece, iv aE1.Side])] ∧ S' = ⟨hav [(3, .ptr b2 0), (5, iv s.1), (11, litL l2 m3 aN0.Joints), (12, iv (aN0.Joints.length : Int)), (13, iv s.2)] J, G⟩) hk ⟨_, _, (pk hO [0]), sh⟩ ?_
 rintro ⟨x3, x4⟩ _ y1 ⟨J, G, hO, rfl⟩ hk hx1
 refine lsq (lrg (pBi (pE (gn (lsq (lck hk (fun hk => ?_) (fun hk => ?_)))))))
 ·refine lsk (gn (lsq (lbl (lsq (lrg (bk hk fun c5 hc5 hk => pX hc5 tE39 tZ80 ?_))))))
  refine pLp (.agg [_, _, _]) (rd2 (lm := m3) (off := 0) hc5 tA80 tZ80) (pNew hO tZ80 t080 (fun b6 G hO => ?_))
  refine pSt (xs := [_, _, _]) hO 0 tZ80 rfl (fun G hO => pE (gn (lsq (lrg ?_))))
  refine pFL tF80_2 hO 0 (.lit _ _ _) tA78 ?_
  refine pLen tS78 ?_
  refine pM (.int _ _) (pE (gn (lbl ?_)))
  refine wpL_loopO (F := f72_L2 aE1 x4 c5) (fun s S' => ∃ (J : Nat → V) (G : Heap), Owns H G [.blk b2 (.cells 2 [iv aE1.Piece, iv aE1.Side])] ∧ S' = ⟨hav [(3, .ptr b2 0), (5, iv s.1), (11, litL l2 m3 aN0.Joints), (12, iv (aN0.Joints.length : Int)), (13, iv x4), (18, litL m3 0 c5.Ends), (19, iv (c5.Ends.length : Int)), (20, iv s.2)] J, G⟩) hk ⟨_, _, (pk hO [1]), sh⟩ ?_
  rintro ⟨x7, x8⟩ _ y2 ⟨J, G, hO, rfl⟩ hk hx2
  refine lsq (lrg (pBi (pE (gn (lsq (lck hk (fun hk => ?_) (fun hk => ?_)))))))
  ·refine lsk (gn (wpL_mid (fun S' => ∃ (x9 : Int) (J : Nat → V) (G : Heap), f72_k3 x8 x9 = some y2 ∧ Owns H G [.blk b2 (.cells 2 [iv aE1.Piece, iv aE1.Side])] ∧ S' = ⟨hav [(3, .ptr b2 0), (5, iv x9), (11, litL l2 m3 aN0.Joints), (12, iv (aN0.Joints.length : Int)), (13, iv x4), (18, litL m3 0 c5.Ends), (19, iv (c5.Ends.length : Int)), (20, iv x8)] J, G⟩) ?_ ?_))
   ·refine lbl (lsq (lrg (bk hk fun c10 hc10 hk => pX hc10 tE78 tZ106 ?_)))
    refine pLp (.agg [_, _]) (rd2 (lm := 0) (off := 0) hc10 tA106 tZ106) (pNew hO tZ106 t0106 (fun b11 G hO => ?_))
    refine pSt (xs := [_, _]) hO 0 tZ106 rfl (fun G hO => pE (gn (lsq (lrg ?_))))
    refine pLs hO 0 [_, _] tA106 tZ106 ?_
    refine pLs hO 1 [_, _] tA106 tZ106 ?_
    refine pGq tG106 (eqc (eqi _ _ _) (eqc (eqi _ _ _) (rfl))) (pE (gn (lck hk (fun hk => ?_) (fun hk => ?_))))
    ·refine lrg (pM (.int _ _) ?_)
     refine pBi ?_
     refine pA (.int _ _) (pE (bn (gn ?_)))
     exact ⟨w64 (x7 + (1:Int)), _, _, hk, (pk hO [1]), sh⟩
    ·exact lsk (bn (gn (⟨x7, _, _, hk, (pk hO [1]), sh⟩)))
   ·rintro _ ⟨x9, J, G, hk, hO, rfl⟩
    refine lrg (pBi ?_)
    refine pM (.int _ _) (pE (gn ?_))
    cases hk; exact ⟨_, rfl, _, _, hO, sh⟩
  ·refine lex (ge (ge (be (bn (gn (have hk := lx hx2 hk; lrg (pBi ?_)))))))
   refine pM (.int _ _) (pE (gn ?_))
   cases hk; exact ⟨_, rfl, _, _, hO, sh⟩
 ·refine lex (ge (ge (be (gn (have hk := lx hx1 hk; lsq (lrg (pM (.int _ _) ?_)))))))
  refine pA (.int _ _) (pE (gn (lrt ?_)))
  cases hk; exact fin0 hO
def f55_L2 (aN0 : Net) (x3 : Int) (c4 : Piece) : Int → Option (Int ⊕ (Int ⊕ Fault)) := fun s =>
 (bif decide (s < x3) then ((getI aN0.Pieces s).bind fun c14 => (bif (c14.Name.toList == c4.Name.toList) then (((some ({ Code := (2:Int), At := x3 } : Fault)).map Sum.inr).map Sum.inr) else some (.inl (w64 (s + (1:Int)))))) else ((some (.inl (w64 (x3 + (1:Int))))).map Sum.inr))
def f55_L4 (aN0 : Net) (x15 : Int) : Int → Option (Int ⊕ (Int ⊕ Fault)) := fun s =>
 (bif decide (s < (aN0.Joints.length : Int)) then ((f71 aN0 s).bind fun v17 => (bif (v17 == x15) then (((some ({ Code := x15, At := s } : Fault)).map Sum.inr).map Sum.inr) else some (.inl (w64 (s + (1:Int)))))) else ((some (.inl (w64 (x15 + (1:Int))))).map Sum.inr))
def f55_L6 (aN0 : Net) (x18 : Int) : Int → Option (Int ⊕ (Int ⊕ Fault)) := fun s =>
 (bif decide (s < (2:Int)) then ((f72 aN0 ({ Piece := x18, Side := s } : End)).bind fun v20 => (bif (v20 != (1:Int)) then (((some ({ Code := (5:Int), At := x18 } : Fault)).map Sum.inr).map Sum.inr) else some (.inl (w64 (s + (1:Int)))))) else ((some (.inl (w64 (x18 + (1:Int))))).map Sum.inr))
def f55_L5 (aN0 : Net) : Int → Option (Int ⊕ Fault) := fun s =>
 (bif decide (s < (aN0.Pieces.length : Int)) then (loopO (f55_L6 aN0 s) ((0:Int))) else ((some ({ Code := 0, At := 0 } : Fault)).map Sum.inr))
def f55_L3 (aN0 : Net) : Int → Option (Int ⊕ Fault) := fun s =>
 (bif decide (s ≤ (4:Int)) then (loopO (f55_L4 aN0 s) ((0:Int))) else ((loopO (f55_L5 aN0) ((0:Int))).map Sum.inr))
def f55_L1 (aN0 : Net) : Int → Option (Int ⊕ Fault) := fun s =>
 (bif decide (s < (aN0.Pieces.length : Int)) then ((getI aN0.Pieces s).bind fun c4 => ((f69 c4.Name).bind fun v6 => ((bif !v6 then some true else ((f70 c4.Len (1:Int) (10000000:Int)).bind fun v8 => some (!v8))).bind fun t7 => ((bif t7 then some true else ((f70 c4.Speed (1:Int) (10000:Int)).bind fun v10 => some (!v10))).bind fun t9 => ((bif t9 then some true else ((f70 c4.Brake (1:Int) (1000:Int)).bind fun v12 => some (!v12))).bind fun t11 => (bif t11 then ((some ({ Code := (2:Int), At := s } : Fault)).map Sum.inr) else (loopO (f55_L2 aN0 s c4) ((0:Int))))))))) else ((loopO (f55_L3 aN0) ((3:Int))).map Sum.inr))
def f55 (aN0 : Net) : Option Fault :=
 (bif ((((aN0.Pieces.length : Int) == (0:Int)) || decide ((aN0.Pieces.length : Int) > (100:Int))) || decide ((aN0.Joints.length : Int) > (120:Int))) then some ({ Code := (1:Int), At := 0 } : Fault) else (loopO (f55_L1 aN0) ((0:Int))))
theorem f55_run {aN0 : Net} {r : Fault} {l1 l2 m3 : Nat} (hk : f55 aN0 = some r) (hlk : 0 < lk.length := by simp) : runL Try.prog hh 55 [.agg [litL l1 0 aN0.Pieces, litL l2 m3 aN0.Joints]] H lk = some (.agg [iv r.Code, iv r.At], H) := by
 refine run_start Try.func55 rfl Try.ntmps55 Try.results55 rfl rfl fun hO => ?_
 unfold f55 at hk
 refine lsq (lrg (pBox (cs := [_, _]) hO tZ41 (fun b1 G hO => pNew hO tZ96 t096 (fun b2 G hO => pE (gn (lsq (lsq (lrg ?_))))))))
 refine pFL tF41_0 hO 1 (.lit _ _ _) tA38 ?_
 refine pLen tS38 ?_
 refine pBi ?_
 refine pM (.bool _) ?_
 refine wpR_mid (l1 := [_, _, _, _, _]) (fun S' => ∃ J, S' = ⟨hav [(1, .ptr b1 0), (2, .ptr b2 0), (19, .bool (((aN0.Pieces.length : Int) == (0:Int)) || decide ((aN0.Pieces.length : Int) > (100:Int))))] J, G⟩) ?_ ?_
 ·refine bc (b := ((aN0.Pieces.length : Int) == (0:Int))) (fun hg => ?_) (fun hg => ?_)
  ·refine pGn hg (pGn hg (pGn hg (pGn hg (pPt hg (.bool _) ?_))))
   exact pE ⟨_, St.hav _ ⟨rfl, rfl, by rw [hg]; rfl, trivial⟩⟩
  ·refine pGy hg (pF tF41_0 (pGy hg ?_))
   refine pLo hO 1 (.lit _ _ _) tA38 (pGy hg ?_)
   refine pLen tS38 (pGy hg ?_)
   refine pBi ?_
   refine pPf hg (.bool _) ?_
   exact pE ⟨_, St.hav _ ⟨rfl, rfl, by rw [hg]; rfl, trivial⟩⟩
 ·rintro _ ⟨J, rfl⟩
  refine pM (.bool _) ?_
  refine wpR_mid (l1 := [_, _, _, _, _]) (fun S' => ∃ J, S' = ⟨hav [(1, .ptr b1 0), (2, .ptr b2 0), (25, .bool ((((aN0.Pieces.length : Int) == (0:Int)) || decide ((aN0.Pieces.length : Int) > (100:Int))) || decide ((aN0.Joints.length : Int) > (120:Int))))] J, G⟩) ?_ ?_
  ·refine bc (b := (((aN0.Pieces.length : Int) == (0:Int)) || decide ((aN0.Pieces.length : Int) > (100:Int)))) (fun hg => ?_) (fun hg => ?_)
   ·refine pGn hg (pGn hg (pGn hg (pGn hg (pPt hg (.bool _) ?_))))
    exact pE ⟨_, St.hav _ ⟨rfl, rfl, by rw [hg]; rfl, trivial⟩⟩
   ·refine pGy hg (pF tF41_1 (pGy hg ?_))
    refine pLo hO 1 (.lit _ _ _) tA39 (pGy hg ?_)
    refine pLen tS39 (pGy hg ?_)
    refine pBi ?_
    refine pPf hg (.bool _) ?_
    exact pE ⟨_, St.hav _ ⟨rfl, rfl, by rw [hg]; rfl, trivial⟩⟩
  ·rintro _ ⟨J, rfl⟩
   refine pE (gn (lck hk (fun hk => ?_) (fun hk => ?_)))
   ·refine lsq (lrg (pBd [_, _] t096 tP96 ?_))
    refine pSt (xs := [_, _]) hO 0 tZ96 rfl (fun G hO => pE (gn (lrt (gr ?_))))
    replace hk := Option.some.inj hk; subst hk; exact finZ hO (fz_agg (n := 2) (fz_c (fz_int _ _) (fz_c (fz_int _ _) (fz_n)))) (resS hO 0 [_, _] tA96 tZ96 resN)
   ·refine lsk (gn (lsq (lsq (lrg (pFL tF41_0 hO 1 (.lit _ _ _) tA38 ?_)))))
    refine pLen tS38 ?_
    refine pM (.int _ _) (pE (gn (lbl ?_)))
    refine wpL_loopO (F := f55_L1 aN0) (fun s S' => ∃ (J : Nat → V) (G : Heap), Owns H G [.blk b2 (.cells 2 [iv 0, iv 0]), .blk b1 (.cells 2 [litL l1 0 aN0.Pieces, litL l2 m3 aN0.Joints])] ∧ S' = ⟨hav [(1, .ptr b1 0), (2, .ptr b2 0), (28, litL l1 0 aN0.Pieces), (29, iv (aN0.Pieces.length : Int)), (30, iv s)] J, G⟩) hk ⟨_, _, hO, sh⟩ ?_
    rintro x3 _ y1 ⟨J, G, hO, rfl⟩ hk hx1
    refine lsq (lrg (pBi (pE (gn (lsq (lck hk (fun hk => ?_) (fun hk => ?_)))))))
    ·refine lsk (gn (lsq (lbl (lsq (lrg (pM (.int _ _) (bk hk fun c4 hc4 hk => ?_)))))))
     refine pX hc4 tE38 tZ58 ?_
     refine pLp (.agg [_, _, _, _]) (rd2 (lm := 0) (off := 0) hc4 tA58 tZ58) (pNew hO tZ58 t058 (fun b5 G hO => ?_))
     refine pA (.int _ _) ?_
     refine pSt (xs := [_, _, _, _]) hO 0 tZ58 rfl (fun G hO => pE (gn (lsq (lsq (lrg ?_)))))
     refine pFL tF58_0 hO 0 (.str _) tA9 (bk hk fun v6 hv6 hk => ?_)
     refine pCall (fun _ => f69_run hv6) ?_
     refine pU ?_
     refine pM (.bool _) (bk hk fun t7 ht hk => ?_)
     refine wpR_mid (l1 := [_, _, _, _, _]) (fun S' => ∃ J, S' = ⟨hav [(1, .ptr b1 0), (2, .ptr b2 0), (3, iv x3), (4, .ptr b5 0), (28, litL l1 0 aN0.Pieces), (29, iv (aN0.Pieces.length : Int)), (30, iv x3), (44, .bool t7)] J, G⟩) ?_ ?_
     ·refine bc (b := !v6) (fun hg => ?_) (fun hg => ?_)
      ·replace hk := ct hg ht
       refine pGn hg (pGn hg (pGn hg (pGn hg (pPt hg (.bool _) ?_))))
       cases hk; exact pE ⟨_, sh⟩
      ·replace hk := cf hg ht
       refine pGy hg (pF tF58_1 (pGy hg ?_))
       refine pLo hO 0 (.int _ _) tA3 (pGy hg (bk hk fun v8 hv8 hk => ?_))
       refine pCall (fun _ => f70_run hv8) (pGy hg ?_)
       refine pU ?_
       refine pPf hg (.bool _) ?_
       cases hk; exact pE ⟨_, sh⟩
     ·rintro _ ⟨J, rfl⟩
      refine pM (.bool _) (bk hk fun t9 ht hk => ?_)
      refine wpR_mid (l1 := [_, _, _, _, _]) (fun S' => ∃ J, S' = ⟨hav [(1, .ptr b1 0), (2, .ptr b2 0), (3, iv x3), (4, .ptr b5 0), (28, litL l1 0 aN0.Pieces), (29, iv (aN0.Pieces.length : Int)), (30, iv x3), (50, .bool t9)] J, G⟩) ?_ ?_
      ·refine bc (b := t7) (fun hg => ?_) (fun hg => ?_)
       ·replace hk := ct hg ht
        refine pGn hg (pGn hg (pGn hg (pGn hg (pPt hg (.bool _) ?_))))
        cases hk; exact pE ⟨_, sh⟩
       ·replace hk := cf hg ht
        refine pGy hg (pF tF58_2 (pGy hg ?_))
        refine pLo hO 0 (.int _ _) tA3 (pGy hg (bk hk fun v10 hv10 hk => ?_))
        refine pCall (fun _ => f70_run hv10) (pGy hg ?_)
        refine pU ?_
        refine pPf hg (.bool _) ?_
        cases hk; exact pE ⟨_, sh⟩
      ·rintro _ ⟨J, rfl⟩
       refine pM (.bool _) (bk hk fun t11 ht hk => ?_)
       refine wpR_mid (l1 := [_, _, _, _, _]) (fun S' => ∃ J, S' = ⟨hav [(1, .ptr b1 0), (2, .ptr b2 0), (3, iv x3), (4, .ptr b5 0), (28, litL l1 0 aN0.Pieces), (29, iv (aN0.Pieces.length : Int)), (30, iv x3), (56, .bool t11)] J, G⟩) ?_ ?_
       ·refine bc (b := t9) (fun hg => ?_) (fun hg => ?_)
        ·replace hk := ct hg ht
         refine pGn hg (pGn hg (pGn hg (pGn hg (pPt hg (.bool _) ?_))))
         cases hk; exact pE ⟨_, sh⟩
        ·replace hk := cf hg ht
         refine pGy hg (pF tF58_3 (pGy hg ?_))
         refine pLo hO 0 (.int _ _) tA3 (pGy hg (bk hk fun v12 hv12 hk => ?_))
         refine pCall (fun _ => f70_run hv12) (pGy hg ?_)
         refine pU ?_
         refine pPf hg (.bool _) ?_
         cases hk; exact pE ⟨_, sh⟩
       ·rintro _ ⟨J, rfl⟩
        refine pE (gn (lck hk (fun hk => ?_) (fun hk => ?_)))
        ·refine lsq (lrg (pM (.int _ _) ?_))
         refine pBd [_, _] t096 tP96 ?_
         refine pSt (xs := [_, _]) hO 1 tZ96 rfl (fun G hO => pE (gn (lrt (gr (br (gr (gr (br (gr (have hk := lx hx1 hk; ?_))))))))))
         replace hk := Option.some.inj hk; subst hk; exact finZ hO (fz_agg (n := 2) (fz_c (fz_int _ _) (fz_c (fz_int _ _) (fz_n)))) (resS hO 1 [_, _] tA96 tZ96 resN)
        ·refine lsk (gn (lsq (lrg (pA (.int _ _) (pE (gn (lbl ?_)))))))
         refine wpL_loopO (F := f55_L2 aN0 x3 c4) (fun s S' => ∃ (J : Nat → V) (G : Heap), Owns H G [.blk b5 (.cells 4 [.str c4.Name, iv c4.Len, iv c4.Speed, iv c4.Brake]), .blk b2 (.cells 2 [iv 0, iv 0]), .blk b1 (.cells 2 [litL l1 0 aN0.Pieces, litL l2 m3 aN0.Joints])] ∧ S' = ⟨hav [(1, .ptr b1 0), (2, .ptr b2 0), (3, iv x3), (4, .ptr b5 0), (5, iv s), (28, litL l1 0 aN0.Pieces), (29, iv (aN0.Pieces.length : Int)), (30, iv x3)] J, G⟩) hk ⟨_, _, hO, sh⟩ ?_
         rintro x13 _ y2 ⟨J, G, hO, rfl⟩ hk hx2
         refine lsq (lsq (lrg (pM (.int _ _) ?_)))
         refine pM (.int _ _) ?_
         refine pBi (pE (gn (lck hk (fun hk => ?_) (fun hk => ?_))))
         ·refine lsk (gn (lsq (lbl (lsq (wpL_drw [(0, true), (1, true), (2, true), (3, true), (4, true), (5, true), (6, true), (7, true), (8, false)] [_, _, _, _, _, _, _, _, _] (by decide +kernel) (by rfl) ?_)))))
          refine pFL tF41_0 hO 2 (.lit _ _ _) tA38 ?_
          refine pM (.int _ _) (bk hk fun c14 hc14 hk => ?_)
          refine pX hc14 tE38 tZ58 ?_
          refine pF tF58_0 ?_
          refine pLp (.str _) (rd1 (lm := 0) (off := 0) hc14 tA9) ?_
          refine pFL tF58_0 hO 0 (.str _) tA9 ?_
          refine pB (a := .str _) (b := .str _) (pE (gn (lck hk (fun hk => ?_) (fun hk => ?_))))
          ·refine lsq (lrg (pM (.int _ _) ?_))
           refine pBd [_, _] t096 tP96 ?_
           refine pSt (xs := [_, _]) hO 1 tZ96 rfl (fun G hO => pE (gn (lrt (br (gr (gr (br (br (gr (gr (br (gr (have hk := lx hx2 hk; have hk := lx hx1 hk; ?_)))))))))))))
           replace hk := Option.some.inj hk; subst hk; exact finZ hO (fz_agg (n := 2) (fz_c (fz_int _ _) (fz_c (fz_int _ _) (fz_n)))) (resS hO 1 [_, _] tA96 tZ96 resN)
          ·refine lsk (bn (gn (lrg (pM (.int _ _) ?_))))
           refine pBi ?_
           refine pA (.int _ _) (pE (gn ?_))
           cases hk; exact ⟨_, rfl, _, _, hO, sh⟩
         ·refine lex (ge (ge (be (bn (gn (have hk := lx hx2 hk; lrg (pBi ?_)))))))
          refine pM (.int _ _) (pE (gn ?_))
          cases hk; exact ⟨_, rfl, _, _, (pk hO [1, 2]), sh⟩
    ·refine lex (ge (ge (be (gn (have hk := lx hx1 hk; lsq (lsq (lrg (pA (.int _ _) (pE (gn (lbl ?_)))))))))))
     refine wpL_loopO (F := f55_L3 aN0) (fun s S' => ∃ (J : Nat → V) (G : Heap), Owns H G [.blk b2 (.cells 2 [iv 0, iv 0]), .blk b1 (.cells 2 [litL l1 0 aN0.Pieces, litL l2 m3 aN0.Joints])] ∧ S' = ⟨hav [(1, .ptr b1 0), (2, .ptr b2 0), (6, iv s)] J, G⟩) hk ⟨_, _, hO, sh⟩ ?_
     rintro x15 _ y1 ⟨J, G, hO, rfl⟩ hk hx1
     refine lsq (lsq (lrg (pM (.int _ _) ?_)))
     refine pBi (pE (gn (lck hk (fun hk => ?_) (fun hk => ?_))))
     ·refine lsk (gn (lsq (lbl (lsq (lrg (pFL tF41_1 hO 1 (.lit _ _ _) tA39 ?_))))))
      refine pLen tS39 ?_
      refine pM (.int _ _) (pE (gn (lbl ?_)))
      refine wpL_loopO (F := f55_L4 aN0 x15) (fun s S' => ∃ (J : Nat → V) (G : Heap), Owns H G [.blk b2 (.cells 2 [iv 0, iv 0]), .blk b1 (.cells 2 [litL l1 0 aN0.Pieces, litL l2 m3 aN0.Joints])] ∧ S' = ⟨hav [(1, .ptr b1 0), (2, .ptr b2 0), (6, iv x15), (82, iv (aN0.Joints.length : Int)), (83, iv s)] J, G⟩) hk ⟨_, _, hO, sh⟩ ?_
      rintro x16 _ y2 ⟨J, G, hO, rfl⟩ hk hx2
      refine lsq (lrg (pBi (pE (gn (lsq (lck hk (fun hk => ?_) (fun hk => ?_)))))))
      ·refine lsk (gn (lsq (lbl (lsq (lrg (pM (.int _ _) ?_))))))
       refine pA (.int _ _) (pE (gn (lsq (lrg ?_))))
       refine pLs hO 1 [_, _] tA41 tZ41 ?_
       refine pM (.int _ _) (bk hk fun v17 hv17 hk => ?_)
       refine pCall (fun _ => f71_run hv17) ?_
       refine pM (.int _ _) ?_
       refine pBi (pE (gn (lck hk (fun hk => ?_) (fun hk => ?_))))
       ·refine lsq (lrg (pM (.int _ _) ?_))
        refine pM (.int _ _) ?_
        refine pBd [_, _] t096 tP96 ?_
        refine pSt (xs := [_, _]) hO 0 tZ96 rfl (fun G hO => pE (gn (lrt (br (gr (gr (br (br (gr (gr (br (gr (have hk := lx hx2 hk; have hk := lx hx1 hk; ?_)))))))))))))
        replace hk := Option.some.inj hk; subst hk; exact finZ hO (fz_agg (n := 2) (fz_c (fz_int _ _) (fz_c (fz_int _ _) (fz_n)))) (resS hO 0 [_, _] tA96 tZ96 resN)
       ·refine lsk (bn (gn (lrg (pBi ?_))))
        refine pM (.int _ _) (pE (gn ?_))
        cases hk; exact ⟨_, rfl, _, _, hO, sh⟩
      ·refine lex (ge (ge (be (bn (gn (have hk := lx hx2 hk; lrg (pM (.int _ _) ?_)))))))
       refine pBi ?_
       refine pA (.int _ _) (pE (gn ?_))
       cases hk; exact ⟨_, rfl, _, _, hO, sh⟩
     ·refine lex (ge (ge (be (gn (have hk := lx hx1 hk; lsq (lsq (lrg (pFL tF41_0 hO 1 (.lit _ _ _) tA38 ?_))))))))
      refine pLen tS38 ?_
      refine pM (.int _ _) (pE (gn (lbl ?_)))
      refine wpL_loopO (F := f55_L5 aN0) (fun s S' => ∃ (J : Nat → V) (G : Heap), Owns H G [.blk b2 (.cells 2 [iv 0, iv 0]), .blk b1 (.cells 2 [litL l1 0 aN0.Pieces, litL l2 m3 aN0.Joints])] ∧ S' = ⟨hav [(1, .ptr b1 0), (2, .ptr b2 0), (97, iv (aN0.Pieces.length : Int)), (98, iv s)] J, G⟩) hk ⟨_, _, hO, sh⟩ ?_
      rintro x18 _ y1 ⟨J, G, hO, rfl⟩ hk hx1
      refine lsq (lrg (pBi (pE (gn (lsq (lck hk (fun hk => ?_) (fun hk => ?_)))))))
      ·refine lsk (gn (lsq (lbl (lsq (lrg (pM (.int _ _) ?_))))))
       refine pA (.int _ _) (pE (gn (lsq (lrg ?_))))
       refine pA (.int _ _) (pE (gn (lbl ?_)))
       refine wpL_loopO (F := f55_L6 aN0 x18) (fun s S' => ∃ (J : Nat → V) (G : Heap), Owns H G [.blk b2 (.cells 2 [iv 0, iv 0]), .blk b1 (.cells 2 [litL l1 0 aN0.Pieces, litL l2 m3 aN0.Joints])] ∧ S' = ⟨hav [(1, .ptr b1 0), (2, .ptr b2 0), (8, iv x18), (9, iv s), (97, iv (aN0.Pieces.length : Int)), (98, iv x18)] J, G⟩) hk ⟨_, _, hO, sh⟩ ?_
       rintro x19 _ y2 ⟨J, G, hO, rfl⟩ hk hx2
       refine lsq (lsq (lrg (pM (.int _ _) ?_)))
       refine pBi (pE (gn (lck hk (fun hk => ?_) (fun hk => ?_))))
       ·refine lsk (gn (lsq (lbl (lsq (lrg (pLs hO 1 [_, _] tA41 tZ41 ?_))))))
        refine pM (.int _ _) ?_
        refine pM (.int _ _) ?_
        refine pBd [_, _] t0106 tP106 (bk hk fun v20 hv20 hk => ?_)
        refine pCall (fun _ => f72_run hv20) ?_
        refine pBi (pE (gn (lck hk (fun hk => ?_) (fun hk => ?_))))
        ·refine lsq (lrg (pM (.int _ _) ?_))
         refine pBd [_, _] t096 tP96 ?_
         refine pSt (xs := [_, _]) hO 0 tZ96 rfl (fun G hO => pE (gn (lrt (br (gr (gr (br (br (gr (gr (br (gr (have hk := lx hx2 hk; have hk := lx hx1 hk; ?_)))))))))))))
         replace hk := Option.some.inj hk; subst hk; exact finZ hO (fz_agg (n := 2) (fz_c (fz_int _ _) (fz_c (fz_int _ _) (fz_n)))) (resS hO 0 [_, _] tA96 tZ96 resN)
        ·refine lsk (bn (gn (lrg (pM (.int _ _) ?_))))
         refine pBi ?_
         refine pA (.int _ _) (pE (gn ?_))
         cases hk; exact ⟨_, rfl, _, _, hO, sh⟩
       ·refine lex (ge (ge (be (bn (gn (have hk := lx hx2 hk; lrg (pBi ?_)))))))
        refine pM (.int _ _) (pE (gn ?_))
        cases hk; exact ⟨_, rfl, _, _, hO, sh⟩
      ·refine lex (ge (ge (be (gn (have hk := lx hx1 hk; lsq (lrg (pBd [_, _] t096 tP96 ?_)))))))
       refine pSt (xs := [_, _]) hO 0 tZ96 rfl (fun G hO => pE (gn (lrt ?_)))
       replace hk := Option.some.inj hk; subst hk; exact finZ hO (fz_agg (n := 2) (fz_c (fz_int _ _) (fz_c (fz_int _ _) (fz_n)))) (resS hO 0 [_, _] tA96 tZ96 resN)
def f38 (aN0 : Net) : Option Bool :=
 ((f55 aN0).bind fun v2 => some (v2.Code == (0:Int)))
theorem f38_run {aN0 : Net} {r : Bool} {l1 l2 m3 : Nat} (hk : f38 aN0 = some r) (hlk : 0 < lk.length := by simp) : runL Try.prog hh 38 [.agg [litL l1 0 aN0.Pieces, litL l2 m3 aN0.Joints]] H lk = some (.bool r, H) := by
 refine run_start Try.func38 rfl Try.ntmps38 Try.results38 rfl rfl fun hO => ?_
 unfold f38 at hk
 refine lsq (lrg (pBox (cs := [_, _]) hO tZ41 (fun b1 G hO => ?_)))
 refine pA (.bool _) (pE (gn (lsq (lrg ?_))))
 refine pLs hO 0 [_, _] tA41 tZ41 (bk hk fun v2 hv2 hk => ?_)
 refine pCall (fun _ => f55_run hv2) (pNew hO tZ96 t096 (fun b3 G hO => ?_))
 refine pSt (xs := [_, _]) hO 0 tZ96 rfl (fun G hO => pE (gn (lsq (lrg ?_))))
 refine pFL tF96_0 hO 0 (.int _ _) tA3 ?_
 refine pBi ?_
 refine pA (.bool _) (pE (gn (lrt ?_)))
 cases hk; exact fin0 hO
def f57 (aX0 : Int) (aA1 : Int) (aB2 : Int) : Option Bool :=
 some (decide (aX0 ≥ aA1) && decide (aX0 ≤ aB2))
theorem f57_run {aX0 : Int} {aA1 : Int} {aB2 : Int} {r : Bool} (hk : f57 aX0 aA1 aB2 = some r) (hlk : 0 < lk.length := by simp) : runL Try.prog hh 57 [iv aX0, iv aA1, iv aB2] H lk = some (.bool r, H) := by
 refine run_start Try.func57 rfl Try.ntmps57 Try.results57 rfl rfl fun hO => ?_
 unfold f57 at hk
 refine lsq (lrg (pA (.bool _) (pE (gn (lsq (lrg ?_))))))
 refine pM (.int _ _) ?_
 refine pM (.int _ _) ?_
 refine pBi ?_
 refine pM (.bool _) ?_
 refine wpR_mid (l1 := [_, _, _, _]) (fun S' => ∃ J, S' = ⟨hav [(14, .bool (decide (aX0 ≥ aA1) && decide (aX0 ≤ aB2)))] J, H⟩) ?_ ?_
 ·refine bc (b := decide (aX0 ≥ aA1)) (fun hg => ?_) (fun hg => ?_)
  ·refine pGy hg (pM (.int _ _) (pGy hg ?_))
   refine pM (.int _ _) (pGy hg ?_)
   refine pBi ?_
   refine pPt hg (.bool _) ?_
   exact pE ⟨_, St.hav _ ⟨by rw [hg]; rfl, trivial⟩⟩
  ·refine pGn hg (pGn hg (pGn hg (pPf hg (.bool _) ?_)))
   exact pE ⟨_, St.hav _ ⟨by rw [hg]; rfl, trivial⟩⟩
 ·rintro _ ⟨J, rfl⟩
  refine pA (.bool _) (pE (gn (lrt ?_)))
  cases hk; exact fin0 hO
def f56 (aN0 : Net) (aS1 : Spot) : Option Bool :=
 ((f57 aS1.Piece (0:Int) (w64 ((aN0.Pieces.length : Int) - (1:Int)))).bind fun v3 => ((bif (v3 && ((aS1.Way == (1:Int)) || (aS1.Way == (-1:Int)))) then ((getI aN0.Pieces aS1.Piece).bind fun c5 => ((f57 aS1.At (0:Int) c5.Len).bind fun v6 => some v6)) else some false).bind fun t4 => some t4))
theorem f56_run {aN0 : Net} {aS1 : Spot} {r : Bool} {l1 l2 m3 : Nat} (hk : f56 aN0 aS1 = some r) (hlk : 0 < lk.length := by simp) : runL Try.prog hh 56 [.agg [litL l1 0 aN0.Pieces, litL l2 m3 aN0.Joints], .agg [iv aS1.Piece, iv aS1.At, iv aS1.Way]] H lk = some (.bool r, H) := by
 refine run_start Try.func56 rfl Try.ntmps56 Try.results56 rfl rfl fun hO => ?_
 unfold f56 at hk
 refine lsq (lrg (pBox (cs := [_, _]) hO tZ41 (fun b1 G hO => ?_)))
 refine pBox (cs := [_, _, _]) hO tZ33 (fun b2 G hO => ?_)
 refine pA (.bool _) (pE (gn (lsq ?_)))
 refine wpL_drw [(0, true), (1, true), (2, true), (3, true), (4, true), (5, true), (6, false), (7, false), (8, false), (9, true), (10, false), (11, false), (12, false), (13, true), (14, false), (15, false), (16, false), (17, false), (18, true), (19, true), (20, true), (21, true), (22, true), (23, true), (24, true), (25, true), (26, true), (27, false), (28, false), (29, false)] [_, _, _, _, _, _, _, _, _, _, _, _, _, _, _, _, _, _, _, _, _, _, _, _, _, _, _, _, _, _] (by decide +kernel) (by rfl) ?_
 refine pFL tF33_0 hO 0 (.int _ _) tA3 ?_
 refine pFL tF41_0 hO 1 (.lit _ _ _) tA38 ?_
 refine pLen tS38 ?_
 refine pBi (bk hk fun v3 hv3 hk => ?_)
 refine pCall (fun _ => f57_run hv3) ?_
 refine pM (.bool _) ?_
 refine wpR_mid (l1 := [_, _, _, _, _, _, _, _, _]) (fun S' => ∃ J, S' = ⟨hav [(2, .ptr b1 0), (3, .ptr b2 0), (21, .bool (v3 && ((aS1.Way == (1:Int)) || (aS1.Way == (-1:Int)))))] J, G⟩) ?_ ?_
 ·refine bc (b := v3) (fun hg => ?_) (fun hg => ?_)
  ·refine pGy hg (pF tF33_2 (pGy hg ?_))
   refine pLo hO 0 (.int _ _) tA3 (pGy hg ?_)
   refine pBi (pGy hg ?_)
   refine pM (.bool _) ?_
   refine wpR_mid (l1 := [_, _, _, _]) (fun S' => ∃ J, S' = ⟨hav [(2, .ptr b1 0), (3, .ptr b2 0), (12, .bool v3), (20, .bool ((aS1.Way == (1:Int)) || (aS1.Way == (-1:Int))))] J, G⟩) ?_ ?_
   ·refine bc (b := (aS1.Way == (1:Int))) (fun hg2 => ?_) (fun hg2 => ?_)
    ·refine pGn hg2 (pGn hg2 (pGn hg2 (pGy hg (pPt hg2 (.bool _) ?_))))
     exact pE ⟨_, St.hav _ ⟨rfl, rfl, rfl, by rw [hg2]; rfl, trivial⟩⟩
    ·refine pGy hg2 (pF tF33_2 (pGy hg2 ?_))
     refine pLo hO 0 (.int _ _) tA3 (pGy hg2 ?_)
     refine pBi (pGy hg ?_)
     refine pPf hg2 (.bool _) ?_
     exact pE ⟨_, St.hav _ ⟨rfl, rfl, rfl, by rw [hg2]; rfl, trivial⟩⟩
   ·rintro _ ⟨J, rfl⟩
    refine pPt hg (.bool _) ?_
    exact pE ⟨_, St.hav _ ⟨rfl, rfl, by rw [hg]; rfl, trivial⟩⟩
  ·refine pGn hg (pGn hg (pGn hg (pGn hg (pGu (pGu (pGu (pGn hg (pPf hg (.bool _) ?_))))))))
   exact pE ⟨_, St.hav _ ⟨rfl, rfl, by rw [hg]; rfl, trivial⟩⟩
 ·rintro _ ⟨J, rfl⟩
  refine pM (.bool _) (bk hk fun t4 ht hk => ?_)
  refine wpR_mid (l1 := [_, _, _, _, _, _, _, _, _, _, _]) (fun S' => ∃ J, S' = ⟨hav [(33, .bool t4)] J, G⟩) ?_ ?_
  ·refine bc (b := (v3 && ((aS1.Way == (1:Int)) || (aS1.Way == (-1:Int))))) (fun hg => ?_) (fun hg => ?_)
   ·replace hk := ct hg ht
    refine pGy hg (pF tF33_1 (pGy hg ?_))
    refine pLo hO 0 (.int _ _) tA3 (pGy hg ?_)
    refine pF tF41_0 (pGy hg ?_)
    refine pLo hO 1 (.lit _ _ _) tA38 (pGy hg ?_)
    refine pF tF33_0 (pGy hg ?_)
    refine pLo hO 0 (.int _ _) tA3 (pGy hg (bk hk fun c5 hc5 hk => ?_))
    refine pX hc5 tE38 tZ58 (pGy hg ?_)
    refine pF tF58_1 (pGy hg ?_)
    refine pLp (.int _ _) (rd1 (lm := 0) (off := 1) hc5 tA3) (pGy hg (bk hk fun v6 hv6 hk => ?_))
    refine pCall (fun _ => f57_run hv6) ?_
    refine pPt hg (.bool _) ?_
    cases hk; exact pE ⟨_, sh⟩
   ·replace hk := cf hg ht
    refine pGn hg (pGn hg (pGn hg (pGn hg (pGn hg (pGn hg (pGn hg (pGn hg (pGn hg (pGn hg (pPf hg (.bool _) ?_))))))))))
    cases hk; exact pE ⟨_, sh⟩
  ·rintro _ ⟨J, rfl⟩
   refine pA (.bool _) (pE (gn (lrt ?_)))
   cases hk; exact fin0 hO
def f40 (aN0 : Net) (aS1 : Spot) : Option Int :=
 (bif (aS1.Way == (1:Int)) then ((getI aN0.Pieces aS1.Piece).bind fun c3 => some (w64 (c3.Len - aS1.At))) else some aS1.At)
theorem f40_run {aN0 : Net} {aS1 : Spot} {r : Int} {l1 l2 m3 : Nat} (hk : f40 aN0 aS1 = some r) (hlk : 0 < lk.length := by simp) : runL Try.prog hh 40 [.agg [litL l1 0 aN0.Pieces, litL l2 m3 aN0.Joints], .agg [iv aS1.Piece, iv aS1.At, iv aS1.Way]] H lk = some (iv r, H) := by
 refine run_start Try.func40 rfl Try.ntmps40 Try.results40 rfl rfl fun hO => ?_
 unfold f40 at hk
 refine lsq (lrg (pBox (cs := [_, _]) hO tZ41 (fun b1 G hO => ?_)))
 refine pBox (cs := [_, _, _]) hO tZ33 (fun b2 G hO => ?_)
 refine pA (.int _ _) (pE (gn (lsq (lsq (lrg ?_)))))
 refine pFL tF33_2 hO 0 (.int _ _) tA3 ?_
 refine pBi (pE (gn (lck hk (fun hk => ?_) (fun hk => ?_))))
 ·refine lsq (wpL_drw [(0, true), (1, true), (2, true), (3, true), (4, true), (5, true), (6, true), (7, true), (8, true), (9, false), (10, false)] [_, _, _, _, _, _, _, _, _, _, _] (by decide +kernel) (by rfl) ?_)
  refine pFL tF41_0 hO 1 (.lit _ _ _) tA38 ?_
  refine pFL tF33_0 hO 0 (.int _ _) tA3 (bk hk fun c3 hc3 hk => ?_)
  refine pX hc3 tE38 tZ58 ?_
  refine pF tF58_1 ?_
  refine pLp (.int _ _) (rd1 (lm := 0) (off := 1) hc3 tA3) ?_
  refine pFL tF33_1 hO 0 (.int _ _) tA3 ?_
  refine pBi ?_
  refine pA (.int _ _) (pE (gn (lrt (gr ?_))))
  cases hk; exact fin0 hO
 ·refine lsk (gn (lsq (lrg (pFL tF33_1 hO 0 (.int _ _) tA3 ?_))))
  refine pA (.int _ _) (pE (gn (lrt ?_)))
  cases hk; exact fin0 hO
def f20 (aN0 : Net) (aS1 : Spot) : Option Int :=
 ((getI aN0.Pieces aS1.Piece).bind fun c3 => ((f40 aN0 aS1).bind fun v4 => some (w64 (c3.Len - v4))))
theorem f20_run {aN0 : Net} {aS1 : Spot} {r : Int} {l1 l2 m3 : Nat} (hk : f20 aN0 aS1 = some r) (hlk : 0 < lk.length := by simp) : runL Try.prog hh 20 [.agg [litL l1 0 aN0.Pieces, litL l2 m3 aN0.Joints], .agg [iv aS1.Piece, iv aS1.At, iv aS1.Way]] H lk = some (iv r, H) := by
 refine run_start Try.func20 rfl Try.ntmps20 Try.results20 rfl rfl fun hO => ?_
 unfold f20 at hk
 refine lsq (lrg (pBox (cs := [_, _]) hO tZ41 (fun b1 G hO => ?_)))
 refine pBox (cs := [_, _, _]) hO tZ33 (fun b2 G hO => ?_)
 refine pA (.int _ _) (pE (gn (lsq ?_)))
 refine wpL_drw [(0, true), (1, true), (2, true), (3, true), (4, true), (5, true), (6, true), (7, true), (8, true), (9, true), (10, false), (11, false)] [_, _, _, _, _, _, _, _, _, _, _, _] (by decide +kernel) (by rfl) ?_
 refine pFL tF41_0 hO 1 (.lit _ _ _) tA38 ?_
 refine pFL tF33_0 hO 0 (.int _ _) tA3 (bk hk fun c3 hc3 hk => ?_)
 refine pX hc3 tE38 tZ58 ?_
 refine pF tF58_1 ?_
 refine pLp (.int _ _) (rd1 (lm := 0) (off := 1) hc3 tA3) ?_
 refine pLs hO 1 [_, _] tA41 tZ41 ?_
 refine pLs hO 0 [_, _, _] tA33 tZ33 (bk hk fun v4 hv4 hk => ?_)
 refine pCall (fun _ => f40_run hv4) ?_
 refine pBi ?_
 refine pA (.int _ _) (pE (gn (lrt ?_)))
 cases hk; exact fin0 hO
def f74 (aPiece0 : Int) (aWay1 : Int) : Option End :=
 (bif (aWay1 == (1:Int)) then some ({ Piece := aPiece0, Side := (1:Int) } : End) else some ({ Piece := aPiece0, Side := 0 } : End))
theorem f74_run {aPiece0 : Int} {aWay1 : Int} {r : End} (hk : f74 aPiece0 aWay1 = some r) (hlk : 0 < lk.length := by simp) : runL Try.prog hh 74 [iv aPiece0, iv aWay1] H lk = some (.agg [iv r.Piece, iv r.Side], H) := by
 refine run_start Try.func74 rfl Try.ntmps74 Try.results74 rfl rfl fun hO => ?_
 unfold f74 at hk
 refine lsq (lrg (pNew hO tZ106 t0106 (fun b1 G hO => pE (gn (lsq (lsq (lrg (pM (.int _ _) ?_))))))))
 refine pBi (pE (gn (lck hk (fun hk => ?_) (fun hk => ?_))))
 ·refine lsq (lrg (pM (.int _ _) ?_))
  refine pBd [_, _] t0106 tP106 ?_
  refine pSt (xs := [_, _]) hO 0 tZ106 rfl (fun G hO => pE (gn (lrt (gr ?_))))
  replace hk := Option.some.inj hk; subst hk; exact finZ hO (fz_agg (n := 2) (fz_c (fz_int _ _) (fz_c (fz_int _ _) (fz_n)))) (resS hO 0 [_, _] tA106 tZ106 resN)
 ·refine lsk (gn (lsq (lrg (pM (.int _ _) ?_))))
  refine pBd [_, _] t0106 tP106 ?_
  refine pSt (xs := [_, _]) hO 0 tZ106 rfl (fun G hO => pE (gn (lrt ?_)))
  replace hk := Option.some.inj hk; subst hk; exact finZ hO (fz_agg (n := 2) (fz_c (fz_int _ _) (fz_c (fz_int _ _) (fz_n)))) (resS hO 0 [_, _] tA106 tZ106 resN)
def f73_L2 (aE1 : End) (x3 : Int) (c4 : Joint) : Int → Option (Int ⊕ (Int ⊕ (Int × Int))) := fun s =>
 (bif decide (s < (c4.Ends.length : Int)) then ((getI c4.Ends s).bind fun c7 => (bif ((c7.Piece == aE1.Piece) && ((c7.Side == aE1.Side) && true)) then (((some (x3, s)).map Sum.inr).map Sum.inr) else some (.inl (w64 (s + (1:Int)))))) else ((some (.inl (w64 (x3 + (1:Int))))).map Sum.inr))
def f73_L1 (aN0 : Net) (aE1 : End) : Int → Option (Int ⊕ (Int × Int)) := fun s =>
 (bif decide (s < (aN0.Joints.length : Int)) then ((getI aN0.Joints s).bind fun c4 => (loopO (f73_L2 aE1 s c4) ((0:Int)))) else ((some ((-1:Int), (-1:Int))).map Sum.inr))
def f73 (aN0 : Net) (aE1 : End) : Option (Int × Int) :=
 (loopO (f73_L1 aN0 aE1) ((0:Int)))
theorem f73_run {aN0 : Net} {aE1 : End} {r : (Int × Int)} {l1 l2 m3 : Nat} (hk : f73 aN0 aE1 = some r) (hlk : 0 < lk.length := by simp) : runL Try.prog hh 73 [.agg [litL l1 0 aN0.Pieces, litL l2 m3 aN0.Joints], .agg [iv aE1.Piece, iv aE1.Side]] H lk = some (.tup [iv r.1, iv r.2], H) := by
 refine run_start Try.func73 rfl Try.ntmps73 Try.results73 rfl rfl fun hO => ?_
 unfold f73 at hk
 refine lsq (lrg (pBox (cs := [_, _]) hO tZ41 (fun b1 G hO => ?_)))
 refine pBox (cs := [_, _]) hO tZ106 (fun b2 G hO => ?_)
 refine pA (.int _ _) ?_
 refine pA (.int _ _) (pE (gn (lsq (lsq (lrg ?_)))))
 refine pFL tF41_1 hO 1 (.lit _ _ _) tA39 ?_
 refine pLen tS39 ?_
 refine pM (.int _ _) (pE (gn (lbl ?_)))
 refine wpL_loopO (F := f73_L1 aN0 aE1) (fun s S' => ∃ (J : Nat → V) (G : Heap), Owns H G [.blk b2 (.cells 2 [iv aE1.Piece, iv aE1.Side])] ∧ S' = ⟨hav [(3, .ptr b2 0), (11, litL l2 m3 aN0.Joints), (12, iv (aN0.Joints.length : Int)), (13, iv s)] J, G⟩) hk ⟨_, _, (pk hO [0]), sh⟩ ?_
 rintro x3 _ y1 ⟨J, G, hO, rfl⟩ hk hx1
 refine lsq (lrg (pBi (pE (gn (lsq (lck hk (fun hk => ?_) (fun hk => ?_)))))))
 ·refine lsk (gn (lsq (lbl (lsq (lrg (pM (.int _ _) (bk hk fun c4 hc4 hk => ?_)))))))
  refine pX hc4 tE39 tZ80 ?_
  refine pLp (.agg [_, _, _]) (rd2 (lm := m3) (off := 0) hc4 tA80 tZ80) (pNew hO tZ80 t080 (fun b5 G hO => ?_))
  refine pA (.int _ _) ?_
  refine pSt (xs := [_, _, _]) hO 0 tZ80 rfl (fun G hO => pE (gn (lsq (lrg ?_))))
  refine pFL tF80_2 hO 0 (.lit _ _ _) tA78 ?_
  refine pLen tS78 ?_
  refine pM (.int _ _) (pE (gn (lbl ?_)))
  refine wpL_loopO (F := f73_L2 aE1 x3 c4) (fun s S' => ∃ (J : Nat → V) (G : Heap), Owns H G [.blk b2 (.cells 2 [iv aE1.Piece, iv aE1.Side])] ∧ S' = ⟨hav [(3, .ptr b2 0), (6, iv x3), (11, litL l2 m3 aN0.Joints), (12, iv (aN0.Joints.length : Int)), (13, iv x3), (19, litL m3 0 c4.Ends), (20, iv (c4.Ends.length : Int)), (21, iv s)] J, G⟩) hk ⟨_, _, (pk hO [1]), sh⟩ ?_
  rintro x6 _ y2 ⟨J, G, hO, rfl⟩ hk hx2
  refine lsq (lrg (pBi (pE (gn (lsq (lck hk (fun hk => ?_) (fun hk => ?_)))))))
  ·refine lsk (gn (lsq (lbl (lsq (lrg (pM (.int _ _) (bk hk fun c7 hc7 hk => ?_)))))))
   refine pX hc7 tE78 tZ106 ?_
   refine pLp (.agg [_, _]) (rd2 (lm := 0) (off := 0) hc7 tA106 tZ106) (pNew hO tZ106 t0106 (fun b8 G hO => ?_))
   refine pA (.int _ _) ?_
   refine pSt (xs := [_, _]) hO 0 tZ106 rfl (fun G hO => pE (gn (lsq (lrg ?_))))
   refine pLs hO 0 [_, _] tA106 tZ106 ?_
   refine pLs hO 1 [_, _] tA106 tZ106 ?_
   refine pGq tG106 (eqc (eqi _ _ _) (eqc (eqi _ _ _) (rfl))) (pE (gn (lck hk (fun hk => ?_) (fun hk => ?_))))
   ·refine lsq (lrg (pM (.int _ _) ?_))
    refine pM (.int _ _) ?_
    refine pA (.int _ _) ?_
    refine pA (.int _ _) (pE (gn (lrt (br (gr (gr (br (br (gr (gr (br (gr (have hk := lx hx2 hk; have hk := lx hx1 hk; ?_)))))))))))))
    replace hk := Option.some.inj hk; subst hk; exact finZ hO (fz_tup (n := 3) (fz_c (fz_int _ _) (fz_c (fz_int _ _) (fz_n)))) (resT (.int _ _) (resT (.int _ _) resN))
   ·refine lsk (bn (gn (lrg (pBi ?_))))
    refine pM (.int _ _) (pE (gn ?_))
    cases hk; exact ⟨_, rfl, _, _, (pk hO [1]), sh⟩
  ·refine lex (ge (ge (be (bn (gn (have hk := lx hx2 hk; lrg (pBi ?_)))))))
   refine pM (.int _ _) (pE (gn ?_))
   cases hk; exact ⟨_, rfl, _, _, hO, sh⟩
 ·refine lex (ge (ge (be (gn (have hk := lx hx1 hk; lsq (lrg (pA (.int _ _) ?_)))))))
  refine pA (.int _ _) (pE (gn (lrt ?_)))
  replace hk := Option.some.inj hk; subst hk; exact finZ hO (fz_tup (n := 3) (fz_c (fz_int _ _) (fz_c (fz_int _ _) (fz_n)))) (resT (.int _ _) (resT (.int _ _) resN))
def f75 (aJ0 : Joint) (aK1 : Int) : Option (List End) :=
 (bif (aJ0.Kind == (2:Int)) then ((getI aJ0.Ends (w64 ((1:Int) - aK1))).bind fun c2 => some ([c2] : List End)) else (bif (aJ0.Kind == (3:Int)) then (bif (aK1 == (0:Int)) then ((getI aJ0.Ends (1:Int)).bind fun c4 => ((getI aJ0.Ends (2:Int)).bind fun c5 => some ([c4, c5] : List End))) else ((getI aJ0.Ends (0:Int)).bind fun c7 => some ([c7] : List End))) else (bif (aJ0.Kind == (4:Int)) then ((getI ([(1:Int), (0:Int), (3:Int), (2:Int)] : List Int) aK1).bind fun c9 => ((getI aJ0.Ends c9).bind fun c10 => some ([c10] : List End))) else some ([] : List End))))
theorem f75_run {aJ0 : Joint} {aK1 : Int} {r : (List End)} {l1 : Nat} (hk : f75 aJ0 aK1 = some r) (hlk : 0 < lk.length := by simp) : runL Try.prog hh 75 [.agg [iv aJ0.Kind, .str aJ0.Name, litL l1 0 aJ0.Ends], iv aK1] H lk = some (litL 0 0 r, H) := by
 refine run_start Try.func75 rfl Try.ntmps75 Try.results75 rfl rfl fun hO => ?_
 unfold f75 at hk
 refine lsq (lrg (pBox (cs := [_, _, _]) hO tZ80 (fun b1 G hO => ?_)))
 refine pA (.tl 0 []) (pE (gn (lsq (lsq (lrg ?_)))))
 refine pFL tF80_0 hO 0 (.int _ _) tA3 (pE (gn (lbl (lsq (lrg ?_)))))
 refine pBi ?_
 refine pA (.bool _) (pE (gn (lck hk (fun hk => ?_) (fun hk => ?_))))
 ·refine lsq (lrg (pFL tF80_2 hO 0 (.lit _ _ _) tA78 ?_))
  refine pM (.int _ _) ?_
  refine pBi (bk hk fun c2 hc2 hk => ?_)
  refine pX hc2 tE78 tZ106 ?_
  refine pLp (.agg [_, _]) (rd2 (lm := 0) (off := 0) hc2 tA106 tZ106) ?_
  refine pBs (ps := [(0, (.agg [_, _]))]) ([c2] : List End) tE78 tZ106 t0106 (emb_cons (embx_agg (α := End) c2) (emb_nil)) ?_
  refine pA (.tl 1 (flatL 0 ([c2] : List End))) (pE (gn (lrt (br (gr ?_)))))
  replace hO := Owns.addTl hO lk.length ([c2] : List End)
  replace hk := Option.some.inj hk; subst hk; exact finZ hO (fz_own (xs := ([c2] : List End)) hlk 0) (resT (.tl 1 (flatL 0 ([c2] : List End))) resN)
 ·refine lsq (lrg (pBi ?_))
  refine pA (.bool _) (pE (gn (lck hk (fun hk => ?_) (fun hk => ?_))))
  ·refine lsq (lsq (lrg (pM (.int _ _) ?_)))
   refine pBi (pE (gn (lck hk (fun hk => ?_) (fun hk => ?_))))
   ·refine lsq (wpL_drw [(0, true), (1, true), (2, true), (3, true), (4, true), (5, true), (6, true), (7, true), (8, false), (9, false)] [_, _, _, _, _, _, _, _, _, _] (by decide +kernel) (by rfl) ?_)
    refine pFL tF80_2 hO 0 (.lit _ _ _) tA78 (bk hk fun c4 hc4 hk => ?_)
    refine pX hc4 tE78 tZ106 ?_
    refine pLp (.agg [_, _]) (rd2 (lm := 0) (off := 0) hc4 tA106 tZ106) ?_
    refine pFL tF80_2 hO 0 (.lit _ _ _) tA78 (bk hk fun c5 hc5 hk => ?_)
    refine pX hc5 tE78 tZ106 ?_
    refine pLp (.agg [_, _]) (rd2 (lm := 0) (off := 0) hc5 tA106 tZ106) ?_
    refine pBs (ps := [(0, (.agg [_, _])), (1, (.agg [_, _]))]) ([c4, c5] : List End) tE78 tZ106 t0106 (emb_cons (embx_agg (α := End) c4) (emb_cons (embx_agg (α := End) c5) (emb_nil))) ?_
    refine pA (.tl 2 (flatL 0 ([c4, c5] : List End))) (pE (gn (lrt (gr (br (gr ?_))))))
    replace hO := Owns.addTl hO lk.length ([c4, c5] : List End)
    replace hk := Option.some.inj hk; subst hk; exact finZ hO (fz_own (xs := ([c4, c5] : List End)) hlk 0) (resT (.tl 2 (flatL 0 ([c4, c5] : List End))) resN)
   ·refine lsk (gn (lsq (lrg (pFL tF80_2 hO 0 (.lit _ _ _) tA78 (bk hk fun c7 hc7 hk => ?_)))))
    refine pX hc7 tE78 tZ106 ?_
    refine pLp (.agg [_, _]) (rd2 (lm := 0) (off := 0) hc7 tA106 tZ106) ?_
    refine pBs (ps := [(0, (.agg [_, _]))]) ([c7] : List End) tE78 tZ106 t0106 (emb_cons (embx_agg (α := End) c7) (emb_nil)) ?_
    refine pA (.tl 1 (flatL 0 ([c7] : List End))) (pE (gn (lrt (br (gr ?_)))))
    replace hO := Owns.addTl hO lk.length ([c7] : List End)
    replace hk := Option.some.inj hk; subst hk; exact finZ hO (fz_own (xs := ([c7] : List End)) hlk 0) (resT (.tl 1 (flatL 0 ([c7] : List End))) resN)
  ·refine lsq (lrg (pBi ?_))
   refine pA (.bool _) (pE (gn (lck hk (fun hk => ?_) (fun hk => ?_))))
   ·refine lsq (wpL_drw [(0, true), (1, true), (2, true), (3, true), (4, true), (5, true), (6, false), (7, true), (8, false), (9, false)] [_, _, _, _, _, _, _, _, _, _] (by decide +kernel) (by rfl) ?_)
    refine pFL tF80_2 hO 0 (.lit _ _ _) tA78 ?_
    refine pBs (ps := [(0, (.int _ _)), (1, (.int _ _)), (2, (.int _ _)), (3, (.int _ _))]) ([(1:Int), (0:Int), (3:Int), (2:Int)] : List Int) tE102 tZ3 t03 (emb_cons (embx_int _ _) (emb_cons (embx_int _ _) (emb_cons (embx_int _ _) (emb_cons (embx_int _ _) (emb_nil))))) ?_
    refine pM (.int _ _) (bk hk fun c9 hc9 hk => ?_)
    refine pXt hc9 tE102 tZ3 ?_
    refine pLp (.int _ _) (rd1 (lm := 0) (off := 0) hc9 tA3) (bk hk fun c10 hc10 hk => ?_)
    refine pX hc10 tE78 tZ106 ?_
    refine pLp (.agg [_, _]) (rd2 (lm := 0) (off := 0) hc10 tA106 tZ106) ?_
    refine pBs (ps := [(0, (.agg [_, _]))]) ([c10] : List End) tE78 tZ106 t0106 (emb_cons (embx_agg (α := End) c10) (emb_nil)) ?_
    refine pA (.tl 1 (flatL 0 ([c10] : List End))) (pE (gn (lrt (br (gr ?_)))))
    replace hO := Owns.addTl hO lk.length ([c10] : List End)
    replace hk := Option.some.inj hk; subst hk; exact finZ hO (fz_own (xs := ([c10] : List End)) hlk 0) (resT (.tl 1 (flatL 0 ([c10] : List End))) resN)
   ·refine lsk (bn (gn (lsq (lrg (pA (.tl 0 []) (pE (gn (lrt ?_))))))))
    replace hk := Option.some.inj hk; subst hk; exact finZ hO (fz_nil (k := 0) End) (resT (.tl 0 []) resN)
def f58_L1 (v6 : End) (v9 : (List End)) : Int → Option (Int ⊕ Bool) := fun s =>
 (bif decide (s < (v9.length : Int)) then ((getI v9 s).bind fun c11 => (bif ((c11.Piece == v6.Piece) && ((c11.Side == v6.Side) && true)) then ((some true).map Sum.inr) else some (.inl (w64 (s + (1:Int)))))) else ((some false).map Sum.inr))
def f58 (aN0 : Net) (aA1 : Step) (aB2 : Step) : Option Bool :=
 ((f74 aA1.Piece aA1.Way).bind fun v4 => ((f73 aN0 v4).bind fun v5 => ((f74 aB2.Piece (w64 (0 - aB2.Way))).bind fun v6 => ((getI aN0.Joints v5.1).bind fun c8 => ((f75 c8 v5.2).bind fun v9 => (loopO (f58_L1 v6 v9) ((0:Int))))))))
theorem f58_run {aN0 : Net} {aA1 : Step} {aB2 : Step} {r : Bool} {l1 l2 m3 : Nat} (hk : f58 aN0 aA1 aB2 = some r) (hlk : 0 < lk.length := by simp) : runL Try.prog hh 58 [.agg [litL l1 0 aN0.Pieces, litL l2 m3 aN0.Joints], .agg [iv aA1.Piece, iv aA1.Way], .agg [iv aB2.Piece, iv aB2.Way]] H lk = some (.bool r, H) := by
 refine run_start Try.func58 rfl Try.ntmps58 Try.results58 rfl rfl fun hO => ?_
 unfold f58 at hk
 refine lsq (lrg (pBox (cs := [_, _]) hO tZ41 (fun b1 G hO => ?_)))
 refine pBox (cs := [_, _]) hO tZ55 (fun b2 G hO => ?_)
 refine pBox (cs := [_, _]) hO tZ55 (fun b3 G hO => ?_)
 refine pA (.bool _) (pE (gn (lsq ?_)))
 refine wpL_drw [(0, true), (1, true), (2, true), (3, true), (4, true), (5, true), (6, false), (7, false), (8, false), (9, false), (10, false), (11, false)] [_, _, _, _, _, _, _, _, _, _, _, _] (by decide +kernel) (by rfl) ?_
 refine pLs hO 2 [_, _] tA41 tZ41 ?_
 refine pFL tF55_0 hO 1 (.int _ _) tA3 ?_
 refine pFL tF55_1 hO 1 (.int _ _) tA3 (bk hk fun v4 hv4 hk => ?_)
 refine pCall (fun _ => f74_run hv4) (bk hk fun v5 hv5 hk => ?_)
 refine pCall (fun _ => f73_run hv5) ?_
 refine pM (.tup [_, _]) ?_
 refine pEx (.int _ _) ?_
 refine pEx (.int _ _) ?_
 refine pA (.int _ _) ?_
 refine pA (.int _ _) (pE (gn (lsq (lrg ?_))))
 refine pFL tF55_0 hO 0 (.int _ _) tA3 ?_
 refine pFL tF55_1 hO 0 (.int _ _) tA3 ?_
 refine pU (bk hk fun v6 hv6 hk => ?_)
 refine pCall (fun _ => f74_run hv6) (pNew hO tZ106 t0106 (fun b7 G hO => ?_))
 refine pSt (xs := [_, _]) hO 0 tZ106 rfl (fun G hO => pE (gn (lsq (lsq (lrg ?_)))))
 refine pFL tF41_1 hO 3 (.lit _ _ _) tA39 ?_
 refine pM (.int _ _) (bk hk fun c8 hc8 hk => ?_)
 refine pX hc8 tE39 tZ80 ?_
 refine pLp (.agg [_, _, _]) (rd2 (lm := m3) (off := 0) hc8 tA80 tZ80) ?_
 refine pM (.int _ _) (bk hk fun v9 hv9 hk => ?_)
 refine pCall (fun _ => f75_run hv9) ?_
 refine pLen tS78 ?_
 refine pM (.int _ _) (pE (gn (lbl ?_)))
 refine wpL_loopO (F := f58_L1 v6 v9) (fun s S' => ∃ (J : Nat → V) (G : Heap), Owns H G [.blk b7 (.cells 2 [iv v6.Piece, iv v6.Side])] ∧ S' = ⟨hav [(9, .ptr b7 0), (34, litL 0 0 v9), (35, iv (v9.length : Int)), (36, iv s)] J, G⟩) hk ⟨_, _, (pk hO [0]), sh⟩ ?_
 rintro x10 _ y1 ⟨J, G, hO, rfl⟩ hk hx1
 refine lsq (lrg (pBi (pE (gn (lsq (lck hk (fun hk => ?_) (fun hk => ?_)))))))
 ·refine lsk (gn (lsq (lbl (lsq (lrg (bk hk fun c11 hc11 hk => pX hc11 tE78 tZ106 ?_))))))
  refine pLp (.agg [_, _]) (rd2 (lm := 0) (off := 0) hc11 tA106 tZ106) (pNew hO tZ106 t0106 (fun b12 G hO => ?_))
  refine pSt (xs := [_, _]) hO 0 tZ106 rfl (fun G hO => pE (gn (lsq (lrg ?_))))
  refine pLs hO 0 [_, _] tA106 tZ106 ?_
  refine pLs hO 1 [_, _] tA106 tZ106 ?_
  refine pGq tG106 (eqc (eqi _ _ _) (eqc (eqi _ _ _) (rfl))) (pE (gn (lck hk (fun hk => ?_) (fun hk => ?_))))
  ·refine lsq (lrg (pA (.bool _) (pE (gn (lrt (br (gr (gr (br (gr (have hk := lx hx1 hk; ?_)))))))))))
   cases hk; exact fin0 hO
  ·refine lsk (bn (gn (lrg (pBi ?_))))
   refine pM (.int _ _) (pE (gn ?_))
   cases hk; exact ⟨_, rfl, _, _, (pk hO [1]), sh⟩
 ·refine lex (ge (ge (be (gn (have hk := lx hx1 hk; lsq (lrg (pA (.bool _) (pE (gn (lrt ?_))))))))))
  cases hk; exact fin0 hO
def f39_L1 (aN0 : Net) (aT1 : Train) : (Int × Int × Int × Int) → Option ((Int × Int × Int × Int) ⊕ Bool) := fun s =>
 (bif decide (s.2.2.2 < (aT1.Back.length : Int)) then ((getI aT1.Back s.2.2.2).bind fun c12 => ((f57 c12.Piece (0:Int) (w64 ((aN0.Pieces.length : Int) - (1:Int)))).bind fun v14 => ((bif ((!v14 || ((c12.Way != (1:Int)) && (c12.Way != (-1:Int)))) || decide (s.2.2.1 ≥ aT1.Long)) then some true else ((f58 aN0 c12 ({ Piece := s.1, Way := s.2.1 } : Step)).bind fun v16 => some (!v16))).bind fun t15 => (bif t15 then ((some false).map Sum.inr) else ((getI aN0.Pieces c12.Piece).bind fun c17 => some (.inl (c12.Piece, c12.Way, w64 (s.2.2.1 + c17.Len), w64 (s.2.2.2 + (1:Int))))))))) else ((some (decide (s.2.2.1 ≥ aT1.Long))).map Sum.inr))
def f39 (aN0 : Net) (aT1 : Train) : Option Bool :=
 ((f56 aN0 aT1.Front).bind fun v3 => ((bif !v3 then some true else ((f57 aT1.Long (1:Int) (100000:Int)).bind fun v5 => some (!v5))).bind fun t4 => (bif (t4 || decide ((aT1.Back.length : Int) > (200:Int))) then some false else ((f20 aN0 aT1.Front).bind fun v6 => (loopO (f39_L1 aN0 aT1) (aT1.Front.Piece, aT1.Front.Way, v6, (0:Int)))))))
theorem f39_run {aN0 : Net} {aT1 : Train} {r : Bool} {l1 l2 m3 l4 : Nat} (hk : f39 aN0 aT1 = some r) (hlk : 0 < lk.length := by simp) : runL Try.prog hh 39 [.agg [litL l1 0 aN0.Pieces, litL l2 m3 aN0.Joints], .agg [iv aT1.Front.Piece, iv aT1.Front.At, iv aT1.Front.Way, iv aT1.Long, litL l4 0 aT1.Back]] H lk = some (.bool r, H) := by
 refine run_start Try.func39 rfl Try.ntmps39 Try.results39 rfl rfl fun hO => ?_
 unfold f39 at hk
 refine lsq (lrg (pBox (cs := [_, _]) hO tZ41 (fun b1 G hO => ?_)))
 refine pBox (cs := [_, _, _, _, _]) hO tZ36 (fun b2 G hO => ?_)
 refine pA (.bool _) (pE (gn (lsq (lsq (lrg ?_)))))
 refine pLs hO 1 [_, _] tA41 tZ41 ?_
 refine pF tF36_0 ?_
 refine pLs hO 0 [_, _, _] tA33 tZ33 (bk hk fun v3 hv3 hk => ?_)
 refine pCall (fun _ => f56_run hv3) ?_
 refine pU ?_
 refine pM (.bool _) (bk hk fun t4 ht hk => ?_)
 refine wpR_mid (l1 := [_, _, _, _, _]) (fun S' => ∃ J, S' = ⟨hav [(2, .ptr b1 0), (3, .ptr b2 0), (19, .bool t4)] J, G⟩) ?_ ?_
 ·refine bc (b := !v3) (fun hg => ?_) (fun hg => ?_)
  ·replace hk := ct hg ht
   refine pGn hg (pGn hg (pGn hg (pGn hg (pPt hg (.bool _) ?_))))
   cases hk; exact pE ⟨_, sh⟩
  ·replace hk := cf hg ht
   refine pGy hg (pF tF36_1 (pGy hg ?_))
   refine pLo hO 0 (.int _ _) tA3 (pGy hg (bk hk fun v5 hv5 hk => ?_))
   refine pCall (fun _ => f57_run hv5) (pGy hg ?_)
   refine pU ?_
   refine pPf hg (.bool _) ?_
   cases hk; exact pE ⟨_, sh⟩
 ·rintro _ ⟨J, rfl⟩
  refine pM (.bool _) ?_
  refine wpR_mid (l1 := [_, _, _, _, _]) (fun S' => ∃ J, S' = ⟨hav [(2, .ptr b1 0), (3, .ptr b2 0), (25, .bool (t4 || decide ((aT1.Back.length : Int) > (200:Int))))] J, G⟩) ?_ ?_
  ·refine bc (b := t4) (fun hg => ?_) (fun hg => ?_)
   ·refine pGn hg (pGn hg (pGn hg (pGn hg (pPt hg (.bool _) ?_))))
    exact pE ⟨_, St.hav _ ⟨rfl, rfl, by rw [hg]; rfl, trivial⟩⟩
   ·refine pGy hg (pF tF36_2 (pGy hg ?_))
    refine pLo hO 0 (.lit _ _ _) tA34 (pGy hg ?_)
    refine pLen tS34 (pGy hg ?_)
    refine pBi ?_
    refine pPf hg (.bool _) ?_
    exact pE ⟨_, St.hav _ ⟨rfl, rfl, by rw [hg]; rfl, trivial⟩⟩
  ·rintro _ ⟨J, rfl⟩
   refine pE (gn (lck hk (fun hk => ?_) (fun hk => ?_)))
   ·refine lsq (lrg (pA (.bool _) (pE (gn (lrt (gr ?_))))))
    cases hk; exact fin0 hO
   ·refine lsk (gn (lsq (lrg (pLs hO 1 [_, _] tA41 tZ41 ?_))))
    refine pF tF36_0 ?_
    refine pLs hO 0 [_, _, _] tA33 tZ33 (bk hk fun v6 hv6 hk => ?_)
    refine pCall (fun _ => f20_run hv6) ?_
    refine pA (.int _ _) (pE (gn (lsq (lrg ?_))))
    refine pF tF36_0 ?_
    refine pFL tF33_0 hO 0 (.int _ _) tA3 ?_
    refine pF tF36_0 ?_
    refine pFL tF33_2 hO 0 (.int _ _) tA3 ?_
    refine pBd [_, _] t055 tP55 (pNew hO tZ55 t055 (fun b7 G hO => ?_))
    refine pSt (xs := [_, _]) hO 0 tZ55 rfl (fun G hO => pE (gn (lsq (lsq (lrg ?_)))))
    refine pFL tF36_2 hO 1 (.lit _ _ _) tA34 ?_
    refine pLen tS34 ?_
    refine pM (.int _ _) (pE (gn (lbl ?_)))
    refine wpL_loopO (F := f39_L1 aN0 aT1) (fun s S' => ∃ (J : Nat → V) (G : Heap), Owns H G [.blk b7 (.cells 2 [iv s.1, iv s.2.1]), .blk b2 (.cells 5 [iv aT1.Front.Piece, iv aT1.Front.At, iv aT1.Front.Way, iv aT1.Long, litL l4 0 aT1.Back]), .blk b1 (.cells 2 [litL l1 0 aN0.Pieces, litL l2 m3 aN0.Joints])] ∧ S' = ⟨hav [(2, .ptr b1 0), (3, .ptr b2 0), (5, iv s.2.2.1), (6, .ptr b7 0), (38, litL l4 0 aT1.Back), (39, iv (aT1.Back.length : Int)), (40, iv s.2.2.2)] J, G⟩) hk ⟨_, _, hO, sh⟩ ?_
    rintro ⟨x8, x9, x10, x11⟩ _ y1 ⟨J, G, hO, rfl⟩ hk hx1
    refine lsq (lrg (pBi (pE (gn (lsq (lck hk (fun hk => ?_) (fun hk => ?_)))))))
    ·refine lsk (gn (lsq (lbl (lsq (lrg (bk hk fun c12 hc12 hk => pX hc12 tE34 tZ55 ?_))))))
     refine pLp (.agg [_, _]) (rd2 (lm := 0) (off := 0) hc12 tA55 tZ55) (pNew hO tZ55 t055 (fun b13 G hO => ?_))
     refine pSt (xs := [_, _]) hO 0 tZ55 rfl (fun G hO => pE (gn (lsq (lsq (lrg ?_)))))
     refine pFL tF55_0 hO 0 (.int _ _) tA3 ?_
     refine pFL tF41_0 hO 3 (.lit _ _ _) tA38 ?_
     refine pLen tS38 ?_
     refine pBi (bk hk fun v14 hv14 hk => ?_)
     refine pCall (fun _ => f57_run hv14) ?_
     refine pU ?_
     refine pM (.bool _) ?_
     refine wpR_mid (l1 := [_, _, _, _, _, _, _, _, _]) (fun S' => ∃ J, S' = ⟨hav [(2, .ptr b1 0), (3, .ptr b2 0), (5, iv x10), (6, .ptr b7 0), (8, .ptr b13 0), (38, litL l4 0 aT1.Back), (39, iv (aT1.Back.length : Int)), (40, iv x11), (61, .bool (!v14 || ((c12.Way != (1:Int)) && (c12.Way != (-1:Int)))))] J, G⟩) ?_ ?_
     ·refine bc (b := !v14) (fun hg => ?_) (fun hg => ?_)
      ·refine pGn hg (pGn hg (pGn hg (pGn hg (pGu (pGu (pGu (pGn hg (pPt hg (.bool _) ?_))))))))
       exact pE ⟨_, St.hav _ ⟨rfl, rfl, rfl, rfl, rfl, rfl, rfl, rfl, by rw [hg]; rfl, trivial⟩⟩
      ·refine pGy hg (pF tF55_1 (pGy hg ?_))
       refine pLo hO 0 (.int _ _) tA3 (pGy hg ?_)
       refine pBi (pGy hg ?_)
       refine pM (.bool _) ?_
       refine wpR_mid (l1 := [_, _, _, _]) (fun S' => ∃ J, S' = ⟨hav [(2, .ptr b1 0), (3, .ptr b2 0), (5, iv x10), (6, .ptr b7 0), (8, .ptr b13 0), (38, litL l4 0 aT1.Back), (39, iv (aT1.Back.length : Int)), (40, iv x11), (52, .bool (!v14)), (60, .bool ((c12.Way != (1:Int)) && (c12.Way != (-1:Int))))] J, G⟩) ?_ ?_
       ·refine bc (b := (c12.Way != (1:Int))) (fun hg2 => ?_) (fun hg2 => ?_)
        ·refine pGy hg2 (pF tF55_1 (pGy hg2 ?_))
         refine pLo hO 0 (.int _ _) tA3 (pGy hg2 ?_)
         refine pBi (pGy hg ?_)
         refine pPt hg2 (.bool _) ?_
         exact pE ⟨_, St.hav _ ⟨rfl, rfl, rfl, rfl, rfl, rfl, rfl, rfl, rfl, by rw [hg2]; rfl, trivial⟩⟩
        ·refine pGn hg2 (pGn hg2 (pGn hg2 (pGy hg (pPf hg2 (.bool _) ?_))))
         exact pE ⟨_, St.hav _ ⟨rfl, rfl, rfl, rfl, rfl, rfl, rfl, rfl, rfl, by rw [hg2]; rfl, trivial⟩⟩
       ·rintro _ ⟨J, rfl⟩
        refine pPf hg (.bool _) ?_
        exact pE ⟨_, St.hav _ ⟨rfl, rfl, rfl, rfl, rfl, rfl, rfl, rfl, by rw [hg]; rfl, trivial⟩⟩
     ·rintro _ ⟨J, rfl⟩
      refine pM (.bool _) ?_
      refine wpR_mid (l1 := [_, _, _, _, _]) (fun S' => ∃ J, S' = ⟨hav [(2, .ptr b1 0), (3, .ptr b2 0), (5, iv x10), (6, .ptr b7 0), (8, .ptr b13 0), (38, litL l4 0 aT1.Back), (39, iv (aT1.Back.length : Int)), (40, iv x11), (67, .bool ((!v14 || ((c12.Way != (1:Int)) && (c12.Way != (-1:Int)))) || decide (x10 ≥ aT1.Long)))] J, G⟩) ?_ ?_
      ·refine bc (b := (!v14 || ((c12.Way != (1:Int)) && (c12.Way != (-1:Int))))) (fun hg => ?_) (fun hg => ?_)
       ·refine pGn hg (pGn hg (pGn hg (pGn hg (pPt hg (.bool _) ?_))))
        exact pE ⟨_, St.hav _ ⟨rfl, rfl, rfl, rfl, rfl, rfl, rfl, rfl, by rw [hg]; rfl, trivial⟩⟩
       ·refine pGy hg (pM (.int _ _) (pGy hg ?_))
        refine pF tF36_1 (pGy hg ?_)
        refine pLo hO 2 (.int _ _) tA3 (pGy hg ?_)
        refine pBi ?_
        refine pPf hg (.bool _) ?_
        exact pE ⟨_, St.hav _ ⟨rfl, rfl, rfl, rfl, rfl, rfl, rfl, rfl, by rw [hg]; rfl, trivial⟩⟩
      ·rintro _ ⟨J, rfl⟩
       refine pM (.bool _) (bk hk fun t15 ht hk => ?_)
       refine wpR_mid (l1 := [_, _, _, _, _, _]) (fun S' => ∃ J, S' = ⟨hav [(2, .ptr b1 0), (3, .ptr b2 0), (5, iv x10), (6, .ptr b7 0), (8, .ptr b13 0), (38, litL l4 0 aT1.Back), (39, iv (aT1.Back.length : Int)), (40, iv x11), (74, .bool t15)] J, G⟩) ?_ ?_
       ·refine bc (b := ((!v14 || ((c12.Way != (1:Int)) && (c12.Way != (-1:Int)))) || decide (x10 ≥ aT1.Long))) (fun hg => ?_) (fun hg => ?_)
        ·replace hk := ct hg ht
         refine pGn hg (pGn hg (pGn hg (pGn hg (pGn hg (pPt hg (.bool _) ?_)))))
         cases hk; exact pE ⟨_, sh⟩
        ·replace hk := cf hg ht
         refine pGy hg (pLs hO 3 [_, _] tA41 tZ41 (pGy hg ?_))
         refine pLs hO 0 [_, _] tA55 tZ55 (pGy hg ?_)
         refine pLs hO 1 [_, _] tA55 tZ55 (pGy hg (bk hk fun v16 hv16 hk => ?_))
         refine pCall (fun _ => f58_run hv16) (pGy hg ?_)
         refine pU ?_
         refine pPf hg (.bool _) ?_
         cases hk; exact pE ⟨_, sh⟩
       ·rintro _ ⟨J, rfl⟩
        refine pE (gn (lck hk (fun hk => ?_) (fun hk => ?_)))
        ·refine lsq (lrg (pA (.bool _) (pE (gn (lrt (gr (br (gr (gr (br (gr (have hk := lx hx1 hk; ?_))))))))))))
         cases hk; exact fin0 hO
        ·refine lsk (gn (lsq (lrg (pM (.int _ _) ?_))))
         refine pFL tF41_0 hO 3 (.lit _ _ _) tA38 ?_
         refine pFL tF55_0 hO 0 (.int _ _) tA3 (bk hk fun c17 hc17 hk => ?_)
         refine pX hc17 tE38 tZ58 ?_
         refine pF tF58_1 ?_
         refine pLp (.int _ _) (rd1 (lm := 0) (off := 1) hc17 tA3) ?_
         refine pBi ?_
         refine pA (.int _ _) (pE (gn (lrg ?_)))
         refine pLs hO 0 [_, _] tA55 tZ55 ?_
         refine pSt (xs := [_, _]) hO 1 tZ55 rfl (fun G hO => pE (bn (gn (lrg ?_))))
         refine pBi ?_
         refine pM (.int _ _) (pE (gn ?_))
         cases hk; exact ⟨_, rfl, _, _, (pk hO [1, 2, 3]), sh⟩
    ·refine lex (ge (ge (be (gn (have hk := lx hx1 hk; lsq (lrg (pM (.int _ _) ?_)))))))
     refine pFL tF36_1 hO 1 (.int _ _) tA3 ?_
     refine pBi ?_
     refine pA (.bool _) (pE (gn (lrt ?_)))
     cases hk; exact fin0 hO
def f18 (aN0 : Net) (aT1 : Train) : Option Bool :=
 ((f38 aN0).bind fun v3 => ((bif v3 then ((f39 aN0 aT1).bind fun v5 => some v5) else some false).bind fun t4 => some t4))
theorem f18_run {aN0 : Net} {aT1 : Train} {r : Bool} {l1 l2 m3 l4 : Nat} (hk : f18 aN0 aT1 = some r) (hlk : 0 < lk.length := by simp) : runL Try.prog hh 18 [.agg [litL l1 0 aN0.Pieces, litL l2 m3 aN0.Joints], .agg [iv aT1.Front.Piece, iv aT1.Front.At, iv aT1.Front.Way, iv aT1.Long, litL l4 0 aT1.Back]] H lk = some (.bool r, H) := by
 refine run_start Try.func18 rfl Try.ntmps18 Try.results18 rfl rfl fun hO => ?_
 unfold f18 at hk
 refine lsq (lrg (pBox (cs := [_, _]) hO tZ41 (fun b1 G hO => ?_)))
 refine pBox (cs := [_, _, _, _, _]) hO tZ36 (fun b2 G hO => ?_)
 refine pA (.bool _) (pE (gn (lsq (lrg ?_))))
 refine pLs hO 1 [_, _] tA41 tZ41 (bk hk fun v3 hv3 hk => ?_)
 refine pCall (fun _ => f38_run hv3) ?_
 refine pM (.bool _) (bk hk fun t4 ht hk => ?_)
 refine wpR_mid (l1 := [_, _, _, _]) (fun S' => ∃ J, S' = ⟨hav [(11, .bool t4)] J, G⟩) ?_ ?_
 ·refine bc (b := v3) (fun hg => ?_) (fun hg => ?_)
  ·replace hk := ct hg ht
   refine pGy hg (pLs hO 1 [_, _] tA41 tZ41 (pGy hg ?_))
   refine pLs hO 0 [_, _, _, _, _] tA36 tZ36 (pGy hg (bk hk fun v5 hv5 hk => ?_))
   refine pCall (fun _ => f39_run hv5) ?_
   refine pPt hg (.bool _) ?_
   cases hk; exact pE ⟨_, sh⟩
  ·replace hk := cf hg ht
   refine pGn hg (pGn hg (pGn hg (pPf hg (.bool _) ?_)))
   cases hk; exact pE ⟨_, sh⟩
 ·rintro _ ⟨J, rfl⟩
  refine pA (.bool _) (pE (gn (lrt ?_)))
  cases hk; exact fin0 hO
def f19_k2 (x6 : Int) (x7 : Int) (x15 : Int) : Option Spot :=
 some ({ Piece := x6, At := x15, Way := x7 } : Spot)
def f19_L1 (aN0 : Net) (aT1 : Train) : (Int × Int × Int × Int × Int) → Option ((Int × Int × Int × Int × Int) ⊕ Spot) := fun s =>
 (bif decide (s.2.2.2.2 < (aT1.Back.length : Int)) then ((getI aT1.Back s.2.2.2.2).bind fun c11 => ((getI aN0.Pieces c11.Piece).bind fun c13 => some (.inl (c11.Piece, c11.Way, w64 (s.2.2.1 - s.2.2.2.1), c13.Len, w64 (s.2.2.2.2 + (1:Int)))))) else ((bif (s.2.1 == (-1:Int)) then ((getI aN0.Pieces s.1).bind fun c16 => (f19_k2 s.1 s.2.1 (w64 (c16.Len - (w64 (s.2.2.2.1 - s.2.2.1)))))) else (f19_k2 s.1 s.2.1 (w64 (s.2.2.2.1 - s.2.2.1)))).map Sum.inr))
def f19 (aN0 : Net) (aT1 : Train) : Option Spot :=
 ((f20 aN0 aT1.Front).bind fun v4 => (loopO (f19_L1 aN0 aT1) (aT1.Front.Piece, aT1.Front.Way, aT1.Long, v4, (0:Int))))
theorem f19_run {aN0 : Net} {aT1 : Train} {r : Spot} {l1 l2 m3 l4 : Nat} (hk : f19 aN0 aT1 = some r) (hlk : 0 < lk.length := by simp) : runL Try.prog hh 19 [.agg [litL l1 0 aN0.Pieces, litL l2 m3 aN0.Joints], .agg [iv aT1.Front.Piece, iv aT1.Front.At, iv aT1.Front.Way, iv aT1.Long, litL l4 0 aT1.Back]] H lk = some (.agg [iv r.Piece, iv r.At, iv r.Way], H) := by
 refine run_start Try.func19 rfl Try.ntmps19 Try.results19 rfl rfl fun hO => ?_
 unfold f19 at hk
 refine lsq (lrg (pBox (cs := [_, _]) hO tZ41 (fun b1 G hO => ?_)))
 refine pBox (cs := [_, _, _, _, _]) hO tZ36 (fun b2 G hO => pNew hO tZ33 t033 (fun b3 G hO => pE (gn (lsq (lrg ?_)))))
 refine pFL tF36_1 hO 1 (.int _ _) tA3 ?_
 refine pA (.int _ _) (pE (gn (lsq (lrg ?_))))
 refine pLs hO 2 [_, _] tA41 tZ41 ?_
 refine pF tF36_0 ?_
 refine pLs hO 1 [_, _, _] tA33 tZ33 (bk hk fun v4 hv4 hk => ?_)
 refine pCall (fun _ => f20_run hv4) ?_
 refine pA (.int _ _) (pE (gn (lsq (lrg ?_))))
 refine pF tF36_0 ?_
 refine pFL tF33_0 hO 1 (.int _ _) tA3 ?_
 refine pF tF36_0 ?_
 refine pFL tF33_2 hO 1 (.int _ _) tA3 ?_
 refine pBd [_, _] t055 tP55 (pNew hO tZ55 t055 (fun b5 G hO => ?_))
 refine pSt (xs := [_, _]) hO 0 tZ55 rfl (fun G hO => pE (gn (lsq (lsq (lrg ?_)))))
 refine pFL tF36_2 hO 2 (.lit _ _ _) tA34 ?_
 refine pLen tS34 ?_
 refine pM (.int _ _) (pE (gn (lbl ?_)))
 refine wpL_loopO (F := f19_L1 aN0 aT1) (fun s S' => ∃ (J : Nat → V) (G : Heap), Owns H G [.blk b5 (.cells 2 [iv s.1, iv s.2.1]), .blk b3 (.cells 3 [iv 0, iv 0, iv 0]), .blk b1 (.cells 2 [litL l1 0 aN0.Pieces, litL l2 m3 aN0.Joints])] ∧ S' = ⟨hav [(2, .ptr b1 0), (4, .ptr b3 0), (5, iv s.2.2.1), (6, iv s.2.2.2.1), (7, .ptr b5 0), (25, litL l4 0 aT1.Back), (26, iv (aT1.Back.length : Int)), (27, iv s.2.2.2.2)] J, G⟩) hk ⟨_, _, (pk hO [0, 1, 3]), sh⟩ ?_
 rintro ⟨x6, x7, x8, x9, x10⟩ _ y1 ⟨J, G, hO, rfl⟩ hk hx1
 refine lsq (lrg (pBi (pE (gn (lsq (lck hk (fun hk => ?_) (fun hk => ?_)))))))
 ·refine lsk (gn (lsq (lbl (lsq (lrg (bk hk fun c11 hc11 hk => pX hc11 tE34 tZ55 ?_))))))
  refine pLp (.agg [_, _]) (rd2 (lm := 0) (off := 0) hc11 tA55 tZ55) (pNew hO tZ55 t055 (fun b12 G hO => ?_))
  refine pSt (xs := [_, _]) hO 0 tZ55 rfl (fun G hO => pE (gn (lsq (lrg ?_))))
  refine pM (.int _ _) ?_
  refine pM (.int _ _) ?_
  refine pBi ?_
  refine pA (.int _ _) (pE (gn (lsq (lrg ?_))))
  refine pLs hO 0 [_, _] tA55 tZ55 ?_
  refine pSt (xs := [_, _]) hO 1 tZ55 rfl (fun G hO => pE (gn (lrg ?_)))
  refine pFL tF41_0 hO 3 (.lit _ _ _) tA38 ?_
  refine pFL tF55_0 hO 0 (.int _ _) tA3 (bk hk fun c13 hc13 hk => ?_)
  refine pX hc13 tE38 tZ58 ?_
  refine pF tF58_1 ?_
  refine pLp (.int _ _) (rd1 (lm := 0) (off := 1) hc13 tA3) ?_
  refine pA (.int _ _) (pE (bn (gn (lrg ?_))))
  refine pBi ?_
  refine pM (.int _ _) (pE (gn ?_))
  cases hk; exact ⟨_, rfl, _, _, (pk hO [1, 2, 3]), sh⟩
 ·refine lex (ge (ge (be (gn (have hk := lx hx1 hk; lsq (lrg (pFL tF55_0 hO 0 (.int _ _) tA3 ?_)))))))
  refine pFL tF55_1 hO 0 (.int _ _) tA3 ?_
  refine pM (.int _ _) ?_
  refine pM (.int _ _) ?_
  refine pBi ?_
  refine pBd [_, _, _] t033 tP33 (pNew hO tZ33 t033 (fun b14 G hO => ?_))
  refine pSt (xs := [_, _, _]) hO 0 tZ33 rfl (fun G hO => pE (gn ?_))
  refine wpL_mid (fun S' => ∃ (x15 : Int) (J : Nat → V) (G : Heap), f19_k2 x6 x7 x15 = some r ∧ Owns H G [.blk b14 (.cells 3 [iv x6, iv x15, iv x7]), .blk b3 (.cells 3 [iv 0, iv 0, iv 0])] ∧ S' = ⟨hav [(4, .ptr b3 0), (10, .ptr b14 0)] J, G⟩) ?_ ?_
  ·refine lsq (lrg (pFL tF55_1 hO 1 (.int _ _) tA3 ?_))
   refine pBi (pE (gn (lck hk (fun hk => ?_) (fun hk => ?_))))
   ·refine wpL_drw [(0, true), (1, true), (2, true), (3, true), (4, true), (5, true), (6, true), (7, true), (8, true), (9, false), (10, false), (11, false)] [_, _, _, _, _, _, _, _, _, _, _, _] (by decide +kernel) (by rfl) ?_
    refine pFL tF41_0 hO 3 (.lit _ _ _) tA38 ?_
    refine pFL tF55_0 hO 1 (.int _ _) tA3 (bk hk fun c16 hc16 hk => ?_)
    refine pX hc16 tE38 tZ58 ?_
    refine pF tF58_1 ?_
    refine pLp (.int _ _) (rd1 (lm := 0) (off := 1) hc16 tA3) ?_
    refine pFL tF33_1 hO 0 (.int _ _) tA3 ?_
    refine pBi ?_
    refine pF tF33_1 ?_
    refine pSt (xs := [_]) hO 0 tZ3 rfl (fun G hO => pE (gn ?_))
    exact ⟨w64 (c16.Len - (w64 (x9 - x8))), _, _, hk, (pk hO [0, 2]), sh⟩
   ·exact lsk (gn (⟨w64 (x9 - x8), _, _, hk, (pk hO [0, 2]), sh⟩))
  ·rintro _ ⟨x15, J, G, hk, hO, rfl⟩
   refine lsq (lrg (pLs hO 0 [_, _, _] tA33 tZ33 ?_))
   refine pSt (xs := [_, _, _]) hO 1 tZ33 rfl (fun G hO => pE (gn (lrt ?_)))
   replace hk := Option.some.inj hk; subst hk; exact finZ hO (fz_agg (n := 2) (fz_c (fz_int _ _) (fz_c (fz_int _ _) (fz_c (fz_int _ _) (fz_n))))) (resS hO 1 [_, _, _] tA33 tZ33 resN)
def f6_L2 (aN0 : Net) (aT1 : Train) (v5 : Spot) : ((List Step) × (List Step) × Int × Int) → Option (((List Step) × (List Step) × Int × Int) ⊕ Train) := fun s =>
 (bif (decide (s.2.2.2 ≥ (0:Int)) && decide (s.2.2.1 < aT1.Long)) then ((getI s.2.1 s.2.2.2).bind fun c20 => ((appB 16 s.1 ([c20] : List Step)).bind fun z22 => ((getI s.2.1 s.2.2.2).bind fun c24 => ((getI aN0.Pieces c24.Piece).bind fun c26 => some (.inl (z22, s.2.1, w64 (s.2.2.1 + c26.Len), w64 (s.2.2.2 - (1:Int)))))))) else ((some ({ Front := ({ Piece := v5.Piece, At := v5.At, Way := w64 (0 - v5.Way) } : Spot), Long := aT1.Long, Back := s.1 } : Train)).map Sum.inr))
def f6_L1 (aN0 : Net) (aT1 : Train) (v5 : Spot) : ((List Step) × Int) → Option (((List Step) × Int) ⊕ Train) := fun s =>
 (bif decide (s.2 < (aT1.Back.length : Int)) then ((getI aT1.Back s.2).bind fun c10 => ((appB 16 s.1 ([({ Piece := c10.Piece, Way := w64 (0 - c10.Way) } : Step)] : List Step)).bind fun z12 => some (.inl (z12, w64 (s.2 + (1:Int)))))) else (((f20 aN0 ({ Piece := v5.Piece, At := v5.At, Way := w64 (0 - v5.Way) } : Spot)).bind fun v13 => (loopO (f6_L2 aN0 aT1 v5) (([] : List Step), s.1, v13, w64 ((s.1.length : Int) - (2:Int))))).map Sum.inr))
def f6 (aN0 : Net) (aT1 : Train) : Option Train :=
 ((f18 aN0 aT1).bind fun v4 => (bif !v4 then some ({ Front := ({ Piece := 0, At := 0, Way := 0 } : Spot), Long := 0, Back := ([] : List Step) } : Train) else ((f19 aN0 aT1).bind fun v5 => (loopO (f6_L1 aN0 aT1 v5) (([({ Piece := aT1.Front.Piece, Way := w64 (0 - aT1.Front.Way) } : Step)] : List Step), (0:Int))))))
theorem f6_run {aN0 : Net} {aT1 : Train} {r : Train} {l1 l2 m3 l4 : Nat} (hk : f6 aN0 aT1 = some r) (hlk : 0 < lk.length := by simp) : runL Try.prog hh 6 [.agg [litL l1 0 aN0.Pieces, litL l2 m3 aN0.Joints], .agg [iv aT1.Front.Piece, iv aT1.Front.At, iv aT1.Front.Way, iv aT1.Long, litL l4 0 aT1.Back]] H lk = some (.agg [iv r.Front.Piece, iv r.Front.At, iv r.Front.Way, iv r.Long, litL 0 0 r.Back], H) := by
 refine run_start Try.func6 rfl Try.ntmps6 Try.results6 rfl rfl fun hO => ?_
 unfold f6 at hk
 refine lsq (lrg (pBox (cs := [_, _]) hO tZ41 (fun b1 G hO => ?_)))
 refine pBox (cs := [_, _, _, _, _]) hO tZ36 (fun b2 G hO => pNew hO tZ36 t036 (fun b3 G hO => pE (gn (lsq (lsq (lrg ?_))))))
 refine pLs hO 2 [_, _] tA41 tZ41 ?_
 refine pLs hO 1 [_, _, _, _, _] tA36 tZ36 (bk hk fun v4 hv4 hk => ?_)
 refine pCall (fun _ => f18_run hv4) ?_
 refine pU (pE (gn (lck hk (fun hk => ?_) (fun hk => ?_))))
 ·refine lsq (lrg (pBd [_, _, _, _, _] t036 tP36 ?_))
  refine pSt (xs := [_, _, _, _, _]) hO 0 tZ36 rfl (fun G hO => pE (gn (lrt (gr ?_))))
  replace hk := Option.some.inj hk; subst hk; exact finZ hO (fz_agg (n := 2) (fz_c (fz_int _ _) (fz_c (fz_int _ _) (fz_c (fz_int _ _) (fz_c (fz_int _ _) (fz_c (fz_nil (k := 0) Step) (fz_n))))))) (resS hO 0 [_, _, _, _, _] tA36 tZ36 resN)
 ·refine lsk (gn (lsq (wpL_drw [(0, true), (1, true), (3, true), (4, true), (2, true), (5, false), (6, true), (7, false)] [_, _, _, _, _, _, _, _] (by decide +kernel) (by rfl) ?_)))
  refine pLs hO 2 [_, _] tA41 tZ41 ?_
  refine pLs hO 1 [_, _, _, _, _] tA36 tZ36 ?_
  refine pFL tF36_1 hO 1 (.int _ _) tA3 (bk hk fun v5 hv5 hk => ?_)
  refine pCall (fun _ => f19_run hv5) ?_
  refine pBd [_, _, _, _, _] t036 tP36 (pNew hO tZ36 t036 (fun b6 G hO => ?_))
  refine pSt (xs := [_, _, _, _, _]) hO 0 tZ36 rfl (fun G hO => pE (gn (lsq (lrg ?_))))
  refine pF tF36_0 ?_
  refine pFL tF33_2 hO 0 (.int _ _) tA3 ?_
  refine pU ?_
  refine pF tF36_0 ?_
  refine pF tF33_2 ?_
  refine pSt (xs := [_]) hO 0 tZ3 rfl (fun G hO => pE (gn (lsq (lrg ?_))))
  refine pF tF36_0 ?_
  refine pFL tF33_0 hO 2 (.int _ _) tA3 ?_
  refine pF tF36_0 ?_
  refine pFL tF33_2 hO 2 (.int _ _) tA3 ?_
  refine pU ?_
  refine pBd [_, _] t055 tP55 ?_
  refine pBs (ps := [(0, (.agg [_, _]))]) ([({ Piece := aT1.Front.Piece, Way := w64 (0 - aT1.Front.Way) } : Step)] : List Step) tE34 tZ55 t055 (emb_cons (embx_agg (α := Step) ({ Piece := aT1.Front.Piece, Way := w64 (0 - aT1.Front.Way) } : Step)) (emb_nil)) ?_
  refine pA (.tl 1 (flatL 0 ([({ Piece := aT1.Front.Piece, Way := w64 (0 - aT1.Front.Way) } : Step)] : List Step))) (pE (gn (lsq (lsq (lrg ?_)))))
  refine pFL tF36_2 hO 2 (.lit _ _ _) tA34 ?_
  refine pLen tS34 ?_
  refine pM (.int _ _) (pE (gn (lbl ?_)))
  refine wpL_loopO (F := f6_L1 aN0 aT1 v5) (fun s S' => ∃ (o7 : V) (J : Nat → V) (G : Heap), Owns H G [.blk b6 (.cells 5 [iv v5.Piece, iv v5.At, iv (w64 (0 - v5.Way)), iv aT1.Long, (.tl 0 [])]), .blk b3 (.cells 5 [iv 0, iv 0, iv 0, iv 0, (.tl 0 [])]), .blk b2 (.cells 5 [iv aT1.Front.Piece, iv aT1.Front.At, iv aT1.Front.Way, iv aT1.Long, litL l4 0 aT1.Back]), .blk b1 (.cells 2 [litL l1 0 aN0.Pieces, litL l2 m3 aN0.Joints]), .own o7 lk.length 2 s.1.length (flatL 0 s.1)] ∧ S' = ⟨hav [(2, .ptr b1 0), (3, .ptr b2 0), (4, .ptr b3 0), (5, .ptr b6 0), (6, o7), (38, litL l4 0 aT1.Back), (39, iv (aT1.Back.length : Int)), (40, iv s.2)] J, G⟩) hk ⟨(.tl 1 (flatL 0 ([({ Piece := aT1.Front.Piece, Way := w64 (0 - aT1.Front.Way) } : Step)] : List Step))), _, _, (Owns.pick (Owns.addTl hO lk.length ([({ Piece := aT1.Front.Piece, Way := w64 (0 - aT1.Front.Way) } : Step)] : List Step)) [1, 2, 3, 4, 0] (by decide) rfl), sh⟩ ?_
  rintro ⟨x7, x9⟩ _ y1 ⟨o7, J, G, hO, rfl⟩ hk hx1
  refine lsq (lrg (pBi (pE (gn (lsq (lck hk (fun hk => ?_) (fun hk => ?_)))))))
  ·refine lsk (gn (lsq (lbl (lsq (lrg (bk hk fun c10 hc10 hk => pX hc10 tE34 tZ55 ?_))))))
   refine pLp (.agg [_, _]) (rd2 (lm := 0) (off := 0) hc10 tA55 tZ55) (pNew hO tZ55 t055 (fun b11 G hO => ?_))
   refine pSt (xs := [_, _]) hO 0 tZ55 rfl (fun G hO => pE (gn (lrg ?_)))
   refine pM o7 ?_
   refine pFL tF55_0 hO 0 (.int _ _) tA3 ?_
   refine pFL tF55_1 hO 0 (.int _ _) tA3 ?_
   refine pU ?_
   refine pBd [_, _] t055 tP55 ?_
   refine pBs (ps := [(0, (.agg [_, _]))]) ([({ Piece := c10.Piece, Way := w64 (0 - c10.Way) } : Step)] : List Step) tE34 tZ55 t055 (emb_cons (embx_agg (α := Step) ({ Piece := c10.Piece, Way := w64 (0 - c10.Way) } : Step)) (emb_nil)) (bk hk fun z12 hz12 hk => ?_)
   refine pAp (xs := x7) hO 5 hz12 (bears_tl ([({ Piece := c10.Piece, Way := w64 (0 - c10.Way) } : Step)] : List Step)) tE34 tZ55 tB55 t055 tE34 rfl (fun o12 G hno12 hO => ?_)
   refine pA o12 (pE (bn (gn (lrg ?_))))
   refine pBi ?_
   refine pM (.int _ _) (pE (gn ?_))
   cases hk; exact ⟨_, rfl, o12, _, _, (pk hO [1, 2, 3, 4, 5]), sh⟩
  ·refine lex (ge (ge (be (gn (have hk := lx hx1 hk; lsq (lrg (pLs hO 3 [_, _] tA41 tZ41 ?_)))))))
   refine pF tF36_0 ?_
   refine pLs hO 0 [_, _, _] tA33 tZ33 (bk hk fun v13 hv13 hk => ?_)
   refine pCall (fun _ => f20_run hv13) ?_
   refine pA (.int _ _) (pE (gn (lsq (lsq (lrg ?_)))))
   refine pM o7 ?_
   refine pLenO (bears_own hO (j := 4) rfl) tS34 ?_
   refine pBi ?_
   refine pA (.int _ _) (pE (gn (lbl ?_)))
   refine wpL_loopO (F := f6_L2 aN0 aT1 v5) (fun s S' => ∃ (o14 : V) (o16 : V) (J : Nat → V) (G : Heap), Owns H G [.own o14 lk.length 2 s.1.length (flatL 0 s.1), .blk b6 (.cells 5 [iv v5.Piece, iv v5.At, iv (w64 (0 - v5.Way)), iv aT1.Long, o14]), .blk b3 (.cells 5 [iv 0, iv 0, iv 0, iv 0, (.tl 0 [])]), .blk b2 (.cells 5 [iv aT1.Front.Piece, iv aT1.Front.At, iv aT1.Front.Way, iv aT1.Long, litL l4 0 aT1.Back]), .blk b1 (.cells 2 [litL l1 0 aN0.Pieces, litL l2 m3 aN0.Joints]), .own o16 lk.length 2 s.2.1.length (flatL 0 s.2.1)] ∧ S' = ⟨hav [(2, .ptr b1 0), (3, .ptr b2 0), (4, .ptr b3 0), (5, .ptr b6 0), (6, o16), (9, iv s.2.2.1), (10, iv s.2.2.2)] J, G⟩) hk ⟨(.tl 0 []), o7, _, _, (Owns.addTl hO lk.length ([] : List Step)), sh⟩ ?_
   rintro ⟨x14, x16, x18, x19⟩ _ y1 ⟨o14, o16, J, G, hO, rfl⟩ hk hx1
   refine lsq (lsq (lrg (pM (.int _ _) ?_)))
   refine pBi ?_
   refine pM (.bool _) ?_
   refine wpR_mid (l1 := [_, _, _, _, _]) (fun S' => ∃ J, S' = ⟨hav [(2, .ptr b1 0), (3, .ptr b2 0), (4, .ptr b3 0), (5, .ptr b6 0), (6, o16), (9, iv x18), (10, iv x19), (68, .bool (decide (x19 ≥ (0:Int)) && decide (x18 < aT1.Long)))] J, G⟩) ?_ ?_
   ·refine bc (b := decide (x19 ≥ (0:Int))) (fun hg => ?_) (fun hg => ?_)
    ·refine pGy hg (pM (.int _ _) (pGy hg ?_))
     refine pF tF36_1 (pGy hg ?_)
     refine pLo hO 3 (.int _ _) tA3 (pGy hg ?_)
     refine pBi ?_
     refine pPt hg (.bool _) ?_
     exact pE ⟨_, St.hav _ ⟨rfl, rfl, rfl, rfl, rfl, rfl, rfl, by rw [hg]; rfl, trivial⟩⟩
    ·refine pGn hg (pGn hg (pGn hg (pGn hg (pPf hg (.bool _) ?_))))
     exact pE ⟨_, St.hav _ ⟨rfl, rfl, rfl, rfl, rfl, rfl, rfl, by rw [hg]; rfl, trivial⟩⟩
   ·rintro _ ⟨J, rfl⟩
    refine pE (gn (lck hk (fun hk => ?_) (fun hk => ?_)))
    ·refine lsk (gn (lsq (lbl (lsq (wpL_drw [(0, true), (1, true), (2, true), (3, true), (4, true), (5, true), (6, true), (7, false), (8, false), (9, false)] [_, _, _, _, _, _, _, _, _, _] (by decide +kernel) (by rfl) ?_)))))
     refine pFL tF36_2 hO 1 o14 tA34 ?_
     refine pM o16 ?_
     refine pM (.int _ _) (bk hk fun c20 hc20 hk => ?_)
     refine pXo hO 5 hc20 tE34 tZ55 (fun lv21 => ?_)
     refine pLp (.agg [_, _]) (rd2 (lm := 0) (off := 0) hc20 tA55 tZ55) ?_
     refine pBs (ps := [(0, (.agg [_, _]))]) ([c20] : List Step) tE34 tZ55 t055 (emb_cons (embx_agg (α := Step) c20) (emb_nil)) (bk hk fun z22 hz22 hk => ?_)
     refine pAp (xs := x14) hO 0 hz22 (bears_tl ([c20] : List Step)) tE34 tZ55 tB55 t055 tE34 rfl (fun o22 G hno22 hO => ?_)
     refine pF tF36_2 ?_
     have hc23 := own_cells hO (j := 0) rfl
     refine pSt (xs := [_]) hO 1 tZ34 rfl (fun G hO => ?_) (h3 := hc23.1) (h6 := one_cell hc23.2)
     refine pE (gn (wpL_drw [(0, true), (1, true), (2, true), (3, true), (4, true), (5, true), (6, true), (7, true), (8, false), (9, false), (10, true), (11, false), (12, false)] [_, _, _, _, _, _, _, _, _, _, _, _, _] (by decide +kernel) (by rfl) ?_))
     refine pM (.int _ _) ?_
     refine pFL tF41_0 hO 4 (.lit _ _ _) tA38 ?_
     refine pM o16 ?_
     refine pM (.int _ _) (bk hk fun c24 hc24 hk => ?_)
     refine pXo hO 5 hc24 tE34 tZ55 (fun lv25 => ?_)
     refine pF tF55_0 ?_
     refine pLp (.int _ _) (rd1 (lm := 0) (off := 0) hc24 tA3) (bk hk fun c26 hc26 hk => ?_)
     refine pX hc26 tE38 tZ58 ?_
     refine pF tF58_1 ?_
     refine pLp (.int _ _) (rd1 (lm := 0) (off := 1) hc26 tA3) ?_
     refine pBi ?_
     refine pA (.int _ _) (pE (bn (gn (lrg ?_))))
     refine pM (.int _ _) ?_
     refine pBi ?_
     refine pA (.int _ _) (pE (gn ?_))
     cases hk; exact ⟨_, rfl, o22, o16, _, _, hO, sh⟩
    ·refine lex (ge (ge (be (gn (have hk := lx hx1 hk; lsq (lrg (pLs hO 1 [_, _, _, _, _] tA36 tZ36 ?_)))))))
     have hc27 := own_cells hO (j := 0) rfl
     refine pSt (xs := [_, _, _, _, _]) hO 2 tZ36 rfl (fun G hO => ?_) (h6 := (all_c rfl (all_c rfl (all_c rfl (all_c rfl (all_c hc27.2 all_n))))))
     refine pE (gn (lrt ?_))
     replace hk := Option.some.inj hk; subst hk; exact finZ hO (fz_agg (n := 2) (fz_c (fz_int _ _) (fz_c (fz_int _ _) (fz_c (fz_int _ _) (fz_c (fz_int _ _) (fz_c (fz_own (xs := x14) hlk 0) (fz_n))))))) (resS hO 2 [_, _, _, _, _] tA36 tZ36 resN)
def f78_L1 (aS0 : ByteArray) : Int → Option (Int ⊕ Bool) := fun s =>
 (bif decide (s < (aS0.size : Int)) then ((byteAt aS0 s).bind fun c2 => (bif !(((decide (c2 ≥ (97:Int)) && decide (c2 ≤ (122:Int))) || (decide (c2 ≥ (48:Int)) && decide (c2 ≤ (57:Int)))) || (c2 == (95:Int))) then ((some false).map Sum.inr) else some (.inl (w64 (s + (1:Int)))))) else ((some true).map Sum.inr))
def f78 (aS0 : ByteArray) : Option Bool :=
 (bif (decide ((aS0.size : Int) < (1:Int)) || decide ((aS0.size : Int) > (20:Int))) then some false else (loopO (f78_L1 aS0) ((0:Int))))
theorem f78_run {aS0 : ByteArray} {r : Bool} (hk : f78 aS0 = some r) (hlk : 0 < lk.length := by simp) : runL Try.prog hh 78 [.str aS0] H lk = some (.bool r, H) := by
 refine run_start Try.func78 rfl Try.ntmps78 Try.results78 rfl rfl fun hO => ?_
 unfold f78 at hk
 refine lsq (lrg (pA (.bool _) (pE (gn (lsq (lsq (lrg ?_)))))))
 refine pM (.str _) ?_
 refine pLen tS9 ?_
 refine pBi ?_
 refine pM (.bool _) ?_
 refine wpR_mid (l1 := [_, _, _, _]) (fun S' => ∃ J, S' = ⟨hav [(0, .str aS0), (12, .bool (decide ((aS0.size : Int) < (1:Int)) || decide ((aS0.size : Int) > (20:Int))))] J, H⟩) ?_ ?_
 ·refine bc (b := decide ((aS0.size : Int) < (1:Int))) (fun hg => ?_) (fun hg => ?_)
  ·refine pGn hg (pGn hg (pGn hg (pPt hg (.bool _) ?_)))
   exact pE ⟨_, St.hav _ ⟨rfl, by rw [hg]; rfl, trivial⟩⟩
  ·refine pGy hg (pM (.str _) (pGy hg ?_))
   refine pLen tS9 (pGy hg ?_)
   refine pBi ?_
   refine pPf hg (.bool _) ?_
   exact pE ⟨_, St.hav _ ⟨rfl, by rw [hg]; rfl, trivial⟩⟩
 ·rintro _ ⟨J, rfl⟩
  refine pE (gn (lck hk (fun hk => ?_) (fun hk => ?_)))
  ·refine lsq (lrg (pA (.bool _) (pE (gn (lrt (gr ?_))))))
   cases hk; exact fin0 hO
  ·refine lsk (gn (lsq (lsq (lrg (pA (.int _ _) (pE (gn (lbl ?_))))))))
   refine wpL_loopO (F := f78_L1 aS0) (fun s S' => ∃ (J : Nat → V) (G : Heap), Owns H G [] ∧ S' = ⟨hav [(0, .str aS0), (3, iv s)] J, G⟩) hk ⟨_, _, hO, sh⟩ ?_
   rintro x1 _ y1 ⟨J, G, hO, rfl⟩ hk hx1
   refine lsq (lsq (lrg (pM (.int _ _) ?_)))
   refine pM (.str _) ?_
   refine pLen tS9 ?_
   refine pBi (pE (gn (lck hk (fun hk => ?_) (fun hk => ?_))))
   ·refine lsk (gn (lsq (lbl (lsq (lrg (pM (.str _) ?_))))))
    refine pM (.int _ _) (bk hk fun c2 hc2 hk => ?_)
    refine pIx Try.underlying9 hc2 ?_
    refine pA (.int _ _) (pE (gn (lsq (lrg ?_))))
    refine pM (.int _ _) ?_
    refine pBi ?_
    refine pM (.bool _) ?_
    refine wpR_mid (l1 := [_, _, _]) (fun S' => ∃ J, S' = ⟨hav [(0, .str aS0), (3, iv x1), (4, .int .u8 c2), (27, .bool (decide (c2 ≥ (97:Int)) && decide (c2 ≤ (122:Int))))] J, G⟩) ?_ ?_
    ·refine bc (b := decide (c2 ≥ (97:Int))) (fun hg => ?_) (fun hg => ?_)
     ·refine pGy hg (pM (.int _ _) (pGy hg ?_))
      refine pBi ?_
      refine pPt hg (.bool _) ?_
      exact pE ⟨_, St.hav _ ⟨rfl, rfl, rfl, by rw [hg]; rfl, trivial⟩⟩
     ·refine pGn hg (pGn hg (pPf hg (.bool _) ?_))
      exact pE ⟨_, St.hav _ ⟨rfl, rfl, rfl, by rw [hg]; rfl, trivial⟩⟩
    ·rintro _ ⟨J, rfl⟩
     refine pM (.bool _) ?_
     refine wpR_mid (l1 := [_, _, _, _, _, _, _]) (fun S' => ∃ J, S' = ⟨hav [(0, .str aS0), (3, iv x1), (4, .int .u8 c2), (35, .bool ((decide (c2 ≥ (97:Int)) && decide (c2 ≤ (122:Int))) || (decide (c2 ≥ (48:Int)) && decide (c2 ≤ (57:Int)))))] J, G⟩) ?_ ?_
     ·refine bc (b := (decide (c2 ≥ (97:Int)) && decide (c2 ≤ (122:Int)))) (fun hg => ?_) (fun hg => ?_)
      ·refine pGn hg (pGn hg (pGn hg (pGu (pGu (pGn hg (pPt hg (.bool _) ?_))))))
       exact pE ⟨_, St.hav _ ⟨rfl, rfl, rfl, by rw [hg]; rfl, trivial⟩⟩
      ·refine pGy hg (pM (.int _ _) (pGy hg ?_))
       refine pBi (pGy hg ?_)
       refine pM (.bool _) ?_
       refine wpR_mid (l1 := [_, _, _]) (fun S' => ∃ J, S' = ⟨hav [(0, .str aS0), (3, iv x1), (4, .int .u8 c2), (28, .bool (decide (c2 ≥ (97:Int)) && decide (c2 ≤ (122:Int)))), (34, .bool (decide (c2 ≥ (48:Int)) && decide (c2 ≤ (57:Int))))] J, G⟩) ?_ ?_
       ·refine bc (b := decide (c2 ≥ (48:Int))) (fun hg2 => ?_) (fun hg2 => ?_)
        ·refine pGy hg2 (pM (.int _ _) (pGy hg2 ?_))
         refine pBi (pGy hg ?_)
         refine pPt hg2 (.bool _) ?_
         exact pE ⟨_, St.hav _ ⟨rfl, rfl, rfl, rfl, by rw [hg2]; rfl, trivial⟩⟩
        ·refine pGn hg2 (pGn hg2 (pGy hg (pPf hg2 (.bool _) ?_)))
         exact pE ⟨_, St.hav _ ⟨rfl, rfl, rfl, rfl, by rw [hg2]; rfl, trivial⟩⟩
       ·rintro _ ⟨J, rfl⟩
        refine pPf hg (.bool _) ?_
        exact pE ⟨_, St.hav _ ⟨rfl, rfl, rfl, by rw [hg]; rfl, trivial⟩⟩
     ·rintro _ ⟨J, rfl⟩
      refine pM (.bool _) ?_
      refine wpR_mid (l1 := [_, _, _]) (fun S' => ∃ J, S' = ⟨hav [(0, .str aS0), (3, iv x1), (39, .bool (((decide (c2 ≥ (97:Int)) && decide (c2 ≤ (122:Int))) || (decide (c2 ≥ (48:Int)) && decide (c2 ≤ (57:Int)))) || (c2 == (95:Int))))] J, G⟩) ?_ ?_
      ·refine bc (b := ((decide (c2 ≥ (97:Int)) && decide (c2 ≤ (122:Int))) || (decide (c2 ≥ (48:Int)) && decide (c2 ≤ (57:Int))))) (fun hg => ?_) (fun hg => ?_)
       ·refine pGn hg (pGn hg (pPt hg (.bool _) ?_))
        exact pE ⟨_, St.hav _ ⟨rfl, rfl, by rw [hg]; rfl, trivial⟩⟩
       ·refine pGy hg (pM (.int _ _) (pGy hg ?_))
        refine pBi ?_
        refine pPf hg (.bool _) ?_
        exact pE ⟨_, St.hav _ ⟨rfl, rfl, by rw [hg]; rfl, trivial⟩⟩
      ·rintro _ ⟨J, rfl⟩
       refine pU (pE (gn (lck hk (fun hk => ?_) (fun hk => ?_))))
       ·refine lsq (lrg (pA (.bool _) (pE (gn (lrt (br (gr (gr (br (gr (have hk := lx hx1 hk; ?_)))))))))))
        cases hk; exact fin0 hO
       ·refine lsk (bn (gn (lrg (pM (.int _ _) ?_))))
        refine pBi ?_
        refine pA (.int _ _) (pE (gn ?_))
        cases hk; exact ⟨_, rfl, _, _, hO, sh⟩
   ·refine lex (ge (ge (be (gn (have hk := lx hx1 hk; lsq (lrg (pA (.bool _) (pE (gn (lrt ?_))))))))))
    cases hk; exact fin0 hO
def f77 (aP0 : Piece) : Option Bool :=
 ((f78 aP0.Name).bind fun v2 => some ((((((v2 && decide (aP0.Len ≥ (1:Int))) && decide (aP0.Len ≤ (10000000:Int))) && decide (aP0.Speed ≥ (1:Int))) && decide (aP0.Speed ≤ (10000:Int))) && decide (aP0.Brake ≥ (1:Int))) && decide (aP0.Brake ≤ (1000:Int))))
theorem f77_run {aP0 : Piece} {r : Bool} (hk : f77 aP0 = some r) (hlk : 0 < lk.length := by simp) : runL Try.prog hh 77 [.agg [.str aP0.Name, iv aP0.Len, iv aP0.Speed, iv aP0.Brake]] H lk = some (.bool r, H) := by
 refine run_start Try.func77 rfl Try.ntmps77 Try.results77 rfl rfl fun hO => ?_
 unfold f77 at hk
 refine lsq (lrg (pBox (cs := [_, _, _, _]) hO tZ58 (fun b1 G hO => ?_)))
 refine pA (.bool _) (pE (gn (lsq (lrg ?_))))
 refine pFL tF58_0 hO 0 (.str _) tA9 (bk hk fun v2 hv2 hk => ?_)
 refine pCall (fun _ => f78_run hv2) ?_
 refine pM (.bool _) ?_
 refine wpR_mid (l1 := [_, _, _, _]) (fun S' => ∃ J, S' = ⟨hav [(1, .ptr b1 0), (10, .bool (v2 && decide (aP0.Len ≥ (1:Int))))] J, G⟩) ?_ ?_
 ·refine bc (b := v2) (fun hg => ?_) (fun hg => ?_)
  ·refine pGy hg (pF tF58_1 (pGy hg ?_))
   refine pLo hO 0 (.int _ _) tA3 (pGy hg ?_)
   refine pBi ?_
   refine pPt hg (.bool _) ?_
   exact pE ⟨_, St.hav _ ⟨rfl, by rw [hg]; rfl, trivial⟩⟩
  ·refine pGn hg (pGn hg (pGn hg (pPf hg (.bool _) ?_)))
   exact pE ⟨_, St.hav _ ⟨rfl, by rw [hg]; rfl, trivial⟩⟩
 ·rintro _ ⟨J, rfl⟩
  refine pM (.bool _) ?_
  refine wpR_mid (l1 := [_, _, _, _]) (fun S' => ∃ J, S' = ⟨hav [(1, .ptr b1 0), (15, .bool ((v2 && decide (aP0.Len ≥ (1:Int))) && decide (aP0.Len ≤ (10000000:Int))))] J, G⟩) ?_ ?_
  ·refine bc (b := (v2 && decide (aP0.Len ≥ (1:Int)))) (fun hg => ?_) (fun hg => ?_)
   ·refine pGy hg (pF tF58_1 (pGy hg ?_))
    refine pLo hO 0 (.int _ _) tA3 (pGy hg ?_)
    refine pBi ?_
    refine pPt hg (.bool _) ?_
    exact pE ⟨_, St.hav _ ⟨rfl, by rw [hg]; rfl, trivial⟩⟩
   ·refine pGn hg (pGn hg (pGn hg (pPf hg (.bool _) ?_)))
    exact pE ⟨_, St.hav _ ⟨rfl, by rw [hg]; rfl, trivial⟩⟩
  ·rintro _ ⟨J, rfl⟩
   refine pM (.bool _) ?_
   refine wpR_mid (l1 := [_, _, _, _]) (fun S' => ∃ J, S' = ⟨hav [(1, .ptr b1 0), (20, .bool (((v2 && decide (aP0.Len ≥ (1:Int))) && decide (aP0.Len ≤ (10000000:Int))) && decide (aP0.Speed ≥ (1:Int))))] J, G⟩) ?_ ?_
   ·refine bc (b := ((v2 && decide (aP0.Len ≥ (1:Int))) && decide (aP0.Len ≤ (10000000:Int)))) (fun hg => ?_) (fun hg => ?_)
    ·refine pGy hg (pF tF58_2 (pGy hg ?_))
     refine pLo hO 0 (.int _ _) tA3 (pGy hg ?_)
     refine pBi ?_
     refine pPt hg (.bool _) ?_
     exact pE ⟨_, St.hav _ ⟨rfl, by rw [hg]; rfl, trivial⟩⟩
    ·refine pGn hg (pGn hg (pGn hg (pPf hg (.bool _) ?_)))
     exact pE ⟨_, St.hav _ ⟨rfl, by rw [hg]; rfl, trivial⟩⟩
   ·rintro _ ⟨J, rfl⟩
    refine pM (.bool _) ?_
    refine wpR_mid (l1 := [_, _, _, _]) (fun S' => ∃ J, S' = ⟨hav [(1, .ptr b1 0), (25, .bool ((((v2 && decide (aP0.Len ≥ (1:Int))) && decide (aP0.Len ≤ (10000000:Int))) && decide (aP0.Speed ≥ (1:Int))) && decide (aP0.Speed ≤ (10000:Int))))] J, G⟩) ?_ ?_
    ·refine bc (b := (((v2 && decide (aP0.Len ≥ (1:Int))) && decide (aP0.Len ≤ (10000000:Int))) && decide (aP0.Speed ≥ (1:Int)))) (fun hg => ?_) (fun hg => ?_)
     ·refine pGy hg (pF tF58_2 (pGy hg ?_))
      refine pLo hO 0 (.int _ _) tA3 (pGy hg ?_)
      refine pBi ?_
      refine pPt hg (.bool _) ?_
      exact pE ⟨_, St.hav _ ⟨rfl, by rw [hg]; rfl, trivial⟩⟩
     ·refine pGn hg (pGn hg (pGn hg (pPf hg (.bool _) ?_)))
      exact pE ⟨_, St.hav _ ⟨rfl, by rw [hg]; rfl, trivial⟩⟩
    ·rintro _ ⟨J, rfl⟩
     refine pM (.bool _) ?_
     refine wpR_mid (l1 := [_, _, _, _]) (fun S' => ∃ J, S' = ⟨hav [(1, .ptr b1 0), (30, .bool (((((v2 && decide (aP0.Len ≥ (1:Int))) && decide (aP0.Len ≤ (10000000:Int))) && decide (aP0.Speed ≥ (1:Int))) && decide (aP0.Speed ≤ (10000:Int))) && decide (aP0.Brake ≥ (1:Int))))] J, G⟩) ?_ ?_
     ·refine bc (b := ((((v2 && decide (aP0.Len ≥ (1:Int))) && decide (aP0.Len ≤ (10000000:Int))) && decide (aP0.Speed ≥ (1:Int))) && decide (aP0.Speed ≤ (10000:Int)))) (fun hg => ?_) (fun hg => ?_)
      ·refine pGy hg (pF tF58_3 (pGy hg ?_))
       refine pLo hO 0 (.int _ _) tA3 (pGy hg ?_)
       refine pBi ?_
       refine pPt hg (.bool _) ?_
       exact pE ⟨_, St.hav _ ⟨rfl, by rw [hg]; rfl, trivial⟩⟩
      ·refine pGn hg (pGn hg (pGn hg (pPf hg (.bool _) ?_)))
       exact pE ⟨_, St.hav _ ⟨rfl, by rw [hg]; rfl, trivial⟩⟩
     ·rintro _ ⟨J, rfl⟩
      refine pM (.bool _) ?_
      refine wpR_mid (l1 := [_, _, _, _]) (fun S' => ∃ J, S' = ⟨hav [(35, .bool ((((((v2 && decide (aP0.Len ≥ (1:Int))) && decide (aP0.Len ≤ (10000000:Int))) && decide (aP0.Speed ≥ (1:Int))) && decide (aP0.Speed ≤ (10000:Int))) && decide (aP0.Brake ≥ (1:Int))) && decide (aP0.Brake ≤ (1000:Int))))] J, G⟩) ?_ ?_
      ·refine bc (b := (((((v2 && decide (aP0.Len ≥ (1:Int))) && decide (aP0.Len ≤ (10000000:Int))) && decide (aP0.Speed ≥ (1:Int))) && decide (aP0.Speed ≤ (10000:Int))) && decide (aP0.Brake ≥ (1:Int)))) (fun hg => ?_) (fun hg => ?_)
       ·refine pGy hg (pF tF58_3 (pGy hg ?_))
        refine pLo hO 0 (.int _ _) tA3 (pGy hg ?_)
        refine pBi ?_
        refine pPt hg (.bool _) ?_
        exact pE ⟨_, St.hav _ ⟨by rw [hg]; rfl, trivial⟩⟩
       ·refine pGn hg (pGn hg (pGn hg (pPf hg (.bool _) ?_)))
        exact pE ⟨_, St.hav _ ⟨by rw [hg]; rfl, trivial⟩⟩
      ·rintro _ ⟨J, rfl⟩
       refine pA (.bool _) (pE (gn (lrt ?_)))
       cases hk; exact fin0 hO
def f60_L3 (aN0 : Net) (x9 : Int) (c10 : Joint) : Int → Option (Int ⊕ (Int ⊕ Fault)) := fun s =>
 (bif decide (s < (c10.Ends.length : Int)) then ((getI c10.Ends s).bind fun c13 => (bif (((decide (c13.Piece < (0:Int)) || decide (c13.Piece ≥ (aN0.Pieces.length : Int))) || decide (c13.Side < (0:Int))) || decide (c13.Side > (1:Int))) then (((some ({ Code := (3:Int), At := x9 } : Fault)).map Sum.inr).map Sum.inr) else some (.inl (w64 (s + (1:Int)))))) else ((some (.inl (w64 (x9 + (1:Int))))).map Sum.inr))
def f60_k5 (x17 : Int) (x18 : List (ByteArray × Bool)) : Option (((List (ByteArray × Bool)) × Int) ⊕ Fault) :=
 some (.inl (x18, w64 (x17 + (1:Int))))
def f60_L7 (x24 : Int) (c25 : Joint) : ((List (End × Int)) × Int) → Option (((List (End × Int)) × Int) ⊕ (((List (End × Int)) × Int) ⊕ Fault)) := fun s =>
 (bif decide (s.2 < (c25.Ends.length : Int)) then ((getI c25.Ends s.2).bind fun c29 => some (.inl (mset c29 (w64 ((mget c29 s.1 0) + (1:Int))) s.1, w64 (s.2 + (1:Int))))) else ((some (.inl (s.1, w64 (x24 + (1:Int))))).map Sum.inr))
def f60_L8 (aN0 : Net) (x23 : List (End × Int)) : Int → Option (Int ⊕ Fault) := fun s =>
 (bif decide (s < (aN0.Pieces.length : Int)) then (bif (((mget ({ Piece := s, Side := (0:Int) } : End) x23 0) != (1:Int)) || ((mget ({ Piece := s, Side := (1:Int) } : End) x23 0) != (1:Int))) then ((some ({ Code := (5:Int), At := s } : Fault)).map Sum.inr) else some (.inl (w64 (s + (1:Int))))) else ((some ({ Code := 0, At := 0 } : Fault)).map Sum.inr))
def f60_L6 (aN0 : Net) : ((List (End × Int)) × Int) → Option (((List (End × Int)) × Int) ⊕ Fault) := fun s =>
 (bif decide (s.2 < (aN0.Joints.length : Int)) then ((getI aN0.Joints s.2).bind fun c25 => (loopO (f60_L7 s.2 c25) (s.1, (0:Int)))) else ((loopO (f60_L8 aN0 s.1) ((0:Int))).map Sum.inr))
def f60_L4 (aN0 : Net) : ((List (ByteArray × Bool)) × Int) → Option (((List (ByteArray × Bool)) × Int) ⊕ Fault) := fun s =>
 (bif decide (s.2 < (aN0.Joints.length : Int)) then ((getI aN0.Joints s.2).bind fun c19 => (bif decide (c19.Kind ≤ (2:Int)) then (bif !(c19.Name.toList == ({ data := #[] } : ByteArray).toList) then ((some ({ Code := (4:Int), At := s.2 } : Fault)).map Sum.inr) else (f60_k5 s.2 s.1)) else ((f78 c19.Name).bind fun v21 => (bif (!v21 || (mget c19.Name s.1 false)) then ((some ({ Code := (4:Int), At := s.2 } : Fault)).map Sum.inr) else (f60_k5 s.2 (mset c19.Name true s.1)))))) else ((loopO (f60_L6 aN0) (([] : List (End × Int)), (0:Int))).map Sum.inr))
def f60_L2 (aN0 : Net) : Int → Option (Int ⊕ Fault) := fun s =>
 (bif decide (s < (aN0.Joints.length : Int)) then ((getI aN0.Joints s).bind fun c10 => (bif ((decide (c10.Kind < (1:Int)) || decide (c10.Kind > (4:Int))) || ((c10.Ends.length : Int) != c10.Kind)) then ((some ({ Code := (3:Int), At := s } : Fault)).map Sum.inr) else (loopO (f60_L3 aN0 s c10) ((0:Int))))) else ((loopO (f60_L4 aN0) (([] : List (ByteArray × Bool)), (0:Int))).map Sum.inr))
def f60_L1 (aN0 : Net) : ((List (ByteArray × Bool)) × Int) → Option (((List (ByteArray × Bool)) × Int) ⊕ Fault) := fun s =>
 (bif decide (s.2 < (aN0.Pieces.length : Int)) then ((getI aN0.Pieces s.2).bind fun c6 => ((f77 c6).bind fun v8 => (bif (!v8 || (mget c6.Name s.1 false)) then ((some ({ Code := (2:Int), At := s.2 } : Fault)).map Sum.inr) else some (.inl (mset c6.Name true s.1, w64 (s.2 + (1:Int))))))) else ((loopO (f60_L2 aN0) ((0:Int))).map Sum.inr))
def f60 (aN0 : Net) : Option Fault :=
 (bif ((((aN0.Pieces.length : Int) == (0:Int)) || decide ((aN0.Pieces.length : Int) > (100:Int))) || decide ((aN0.Joints.length : Int) > (120:Int))) then some ({ Code := (1:Int), At := (0:Int) } : Fault) else (loopO (f60_L1 aN0) (([] : List (ByteArray × Bool)), (0:Int))))
theorem f60_run {aN0 : Net} {r : Fault} {l1 l2 m3 : Nat} (hk : f60 aN0 = some r) (hlk : 0 < lk.length := by simp) : runL Try.prog hh 60 [.agg [litL l1 0 aN0.Pieces, litL l2 m3 aN0.Joints]] H lk = some (.agg [iv r.Code, iv r.At], H) := by
 refine run_start Try.func60 rfl Try.ntmps60 Try.results60 rfl rfl fun hO => ?_
 unfold f60 at hk
 refine lsq (lrg (pBox (cs := [_, _]) hO tZ41 (fun b1 G hO => pNew hO tZ96 t096 (fun b2 G hO => pE (gn (lsq (lsq (lrg ?_))))))))
 refine pFL tF41_0 hO 1 (.lit _ _ _) tA38 ?_
 refine pLen tS38 ?_
 refine pBi ?_
 refine pM (.bool _) ?_
 refine wpR_mid (l1 := [_, _, _, _, _]) (fun S' => ∃ J, S' = ⟨hav [(1, .ptr b1 0), (2, .ptr b2 0), (27, .bool (((aN0.Pieces.length : Int) == (0:Int)) || decide ((aN0.Pieces.length : Int) > (100:Int))))] J, G⟩) ?_ ?_
 ·refine bc (b := ((aN0.Pieces.length : Int) == (0:Int))) (fun hg => ?_) (fun hg => ?_)
  ·refine pGn hg (pGn hg (pGn hg (pGn hg (pPt hg (.bool _) ?_))))
   exact pE ⟨_, St.hav _ ⟨rfl, rfl, by rw [hg]; rfl, trivial⟩⟩
  ·refine pGy hg (pF tF41_0 (pGy hg ?_))
   refine pLo hO 1 (.lit _ _ _) tA38 (pGy hg ?_)
   refine pLen tS38 (pGy hg ?_)
   refine pBi ?_
   refine pPf hg (.bool _) ?_
   exact pE ⟨_, St.hav _ ⟨rfl, rfl, by rw [hg]; rfl, trivial⟩⟩
 ·rintro _ ⟨J, rfl⟩
  refine pM (.bool _) ?_
  refine wpR_mid (l1 := [_, _, _, _, _]) (fun S' => ∃ J, S' = ⟨hav [(1, .ptr b1 0), (2, .ptr b2 0), (33, .bool ((((aN0.Pieces.length : Int) == (0:Int)) || decide ((aN0.Pieces.length : Int) > (100:Int))) || decide ((aN0.Joints.length : Int) > (120:Int))))] J, G⟩) ?_ ?_
  ·refine bc (b := (((aN0.Pieces.length : Int) == (0:Int)) || decide ((aN0.Pieces.length : Int) > (100:Int)))) (fun hg => ?_) (fun hg => ?_)
   ·refine pGn hg (pGn hg (pGn hg (pGn hg (pPt hg (.bool _) ?_))))
    exact pE ⟨_, St.hav _ ⟨rfl, rfl, by rw [hg]; rfl, trivial⟩⟩
   ·refine pGy hg (pF tF41_1 (pGy hg ?_))
    refine pLo hO 1 (.lit _ _ _) tA39 (pGy hg ?_)
    refine pLen tS39 (pGy hg ?_)
    refine pBi ?_
    refine pPf hg (.bool _) ?_
    exact pE ⟨_, St.hav _ ⟨rfl, rfl, by rw [hg]; rfl, trivial⟩⟩
  ·rintro _ ⟨J, rfl⟩
   refine pE (gn (lck hk (fun hk => ?_) (fun hk => ?_)))
   ·refine lsq (lrg (pBd [_, _] t096 tP96 ?_))
    refine pSt (xs := [_, _]) hO 0 tZ96 rfl (fun G hO => pE (gn (lrt (gr ?_))))
    replace hk := Option.some.inj hk; subst hk; exact finZ hO (fz_agg (n := 2) (fz_c (fz_int _ _) (fz_c (fz_int _ _) (fz_n)))) (resS hO 0 [_, _] tA96 tZ96 resN)
   ·refine lsk (gn (lsq (lrg (pMm ByteArray Bool hO (fun b3 G hO => ?_)))))
    refine pA (.mref _) (pE (gn (lsq (lsq (lrg ?_)))))
    refine pFL tF41_0 hO 2 (.lit _ _ _) tA38 ?_
    refine pLen tS38 ?_
    refine pM (.int _ _) (pE (gn (lbl ?_)))
    refine wpL_loopO (F := f60_L1 aN0) (fun s S' => ∃ (J : Nat → V) (G : Heap), Owns H G [.blk b3 (.mp (kvs s.1)), .blk b2 (.cells 2 [iv 0, iv 0]), .blk b1 (.cells 2 [litL l1 0 aN0.Pieces, litL l2 m3 aN0.Joints])] ∧ S' = ⟨hav [(1, .ptr b1 0), (2, .ptr b2 0), (3, .mref b3), (37, litL l1 0 aN0.Pieces), (38, iv (aN0.Pieces.length : Int)), (39, iv s.2)] J, G⟩) hk ⟨_, _, hO, sh⟩ ?_
    rintro ⟨x4, x5⟩ _ y1 ⟨J, G, hO, rfl⟩ hk hx1
    refine lsq (lrg (pBi (pE (gn (lsq (lck hk (fun hk => ?_) (fun hk => ?_)))))))
    ·refine lsk (gn (lsq (lbl (lsq (lrg (pM (.int _ _) (bk hk fun c6 hc6 hk => ?_)))))))
     refine pX hc6 tE38 tZ58 ?_
     refine pLp (.agg [_, _, _, _]) (rd2 (lm := 0) (off := 0) hc6 tA58 tZ58) (pNew hO tZ58 t058 (fun b7 G hO => ?_))
     refine pA (.int _ _) ?_
     refine pSt (xs := [_, _, _, _]) hO 0 tZ58 rfl (fun G hO => pE (gn (lsq (lsq (lrg ?_)))))
     refine pLs hO 0 [_, _, _, _] tA58 tZ58 (bk hk fun v8 hv8 hk => ?_)
     refine pCall (fun _ => f77_run hv8) ?_
     refine pU ?_
     refine pM (.bool _) ?_
     refine wpR_mid (l1 := [_, _, _, _, _]) (fun S' => ∃ J, S' = ⟨hav [(1, .ptr b1 0), (2, .ptr b2 0), (3, .mref b3), (4, iv x5), (5, .ptr b7 0), (37, litL l1 0 aN0.Pieces), (38, iv (aN0.Pieces.length : Int)), (39, iv x5), (52, .bool (!v8 || (mget c6.Name x4 false)))] J, G⟩) ?_ ?_
     ·refine bc (b := !v8) (fun hg => ?_) (fun hg => ?_)
      ·refine pGn hg (pGn hg (pGn hg (pGn hg (pPt hg (.bool _) ?_))))
       exact pE ⟨_, St.hav _ ⟨rfl, rfl, rfl, rfl, rfl, rfl, rfl, rfl, by rw [hg]; rfl, trivial⟩⟩
      ·refine pGy hg (pM (.mref _) (pGy hg ?_))
       refine pF tF58_0 (pGy hg ?_)
       refine pLo hO 0 (.str _) tA9 (pGy hg ?_)
       refine pLk c6.Name (false : Bool) (hO.get (k := 1) rfl).1 tM120 fit_str tY4 ?_
       refine pPf hg (.bool _) ?_
       exact pE ⟨_, St.hav _ ⟨rfl, rfl, rfl, rfl, rfl, rfl, rfl, rfl, by rw [hg]; rfl, trivial⟩⟩
     ·rintro _ ⟨J, rfl⟩
      refine pE (gn (lck hk (fun hk => ?_) (fun hk => ?_)))
      ·refine lsq (lrg (pM (.int _ _) ?_))
       refine pBd [_, _] t096 tP96 ?_
       refine pSt (xs := [_, _]) hO 2 tZ96 rfl (fun G hO => pE (gn (lrt (gr (br (gr (gr (br (gr (have hk := lx hx1 hk; ?_))))))))))
       replace hk := Option.some.inj hk; subst hk; exact finZ hO (fz_agg (n := 2) (fz_c (fz_int _ _) (fz_c (fz_int _ _) (fz_n)))) (resS hO 2 [_, _] tA96 tZ96 resN)
      ·refine lsk (gn (lrg (pM (.mref _) ?_)))
       refine pFL tF58_0 hO 0 (.str _) tA9 ?_
       refine pUp hO 1 c6.Name true tM120 fit_str rfl (fun G hO => pE (bn (gn (lrg ?_))))
       refine pBi ?_
       refine pM (.int _ _) (pE (gn ?_))
       cases hk; exact ⟨_, rfl, _, _, (pk hO [1, 2, 3]), sh⟩
    ·refine lex (ge (ge (be (gn (have hk := lx hx1 hk; lsq (lsq (lrg (pFL tF41_1 hO 2 (.lit _ _ _) tA39 ?_))))))))
     refine pLen tS39 ?_
     refine pM (.int _ _) (pE (gn (lbl ?_)))
     refine wpL_loopO (F := f60_L2 aN0) (fun s S' => ∃ (J : Nat → V) (G : Heap), Owns H G [.blk b2 (.cells 2 [iv 0, iv 0]), .blk b1 (.cells 2 [litL l1 0 aN0.Pieces, litL l2 m3 aN0.Joints])] ∧ S' = ⟨hav [(1, .ptr b1 0), (2, .ptr b2 0), (60, litL l2 m3 aN0.Joints), (61, iv (aN0.Joints.length : Int)), (62, iv s)] J, G⟩) hk ⟨_, _, (pk hO [1, 2]), sh⟩ ?_
     rintro x9 _ y1 ⟨J, G, hO, rfl⟩ hk hx1
     refine lsq (lrg (pBi (pE (gn (lsq (lck hk (fun hk => ?_) (fun hk => ?_)))))))
     ·refine lsk (gn (lsq (lbl (lsq (lrg (pM (.int _ _) (bk hk fun c10 hc10 hk => ?_)))))))
      refine pX hc10 tE39 tZ80 ?_
      refine pLp (.agg [_, _, _]) (rd2 (lm := m3) (off := 0) hc10 tA80 tZ80) (pNew hO tZ80 t080 (fun b11 G hO => ?_))
      refine pA (.int _ _) ?_
      refine pSt (xs := [_, _, _]) hO 0 tZ80 rfl (fun G hO => pE (gn (lsq (lsq (lrg ?_)))))
      refine pFL tF80_0 hO 0 (.int _ _) tA3 ?_
      refine pBi ?_
      refine pM (.bool _) ?_
      refine wpR_mid (l1 := [_, _, _, _]) (fun S' => ∃ J, S' = ⟨hav [(1, .ptr b1 0), (2, .ptr b2 0), (6, iv x9), (7, .ptr b11 0), (60, litL l2 m3 aN0.Joints), (61, iv (aN0.Joints.length : Int)), (62, iv x9), (74, .bool (decide (c10.Kind < (1:Int)) || decide (c10.Kind > (4:Int))))] J, G⟩) ?_ ?_
      ·refine bc (b := decide (c10.Kind < (1:Int))) (fun hg => ?_) (fun hg => ?_)
       ·refine pGn hg (pGn hg (pGn hg (pPt hg (.bool _) ?_)))
        exact pE ⟨_, St.hav _ ⟨rfl, rfl, rfl, rfl, rfl, rfl, rfl, by rw [hg]; rfl, trivial⟩⟩
       ·refine pGy hg (pF tF80_0 (pGy hg ?_))
        refine pLo hO 0 (.int _ _) tA3 (pGy hg ?_)
        refine pBi ?_
        refine pPf hg (.bool _) ?_
        exact pE ⟨_, St.hav _ ⟨rfl, rfl, rfl, rfl, rfl, rfl, rfl, by rw [hg]; rfl, trivial⟩⟩
      ·rintro _ ⟨J, rfl⟩
       refine pM (.bool _) ?_
       refine wpR_mid (l1 := [_, _, _, _, _, _, _]) (fun S' => ∃ J, S' = ⟨hav [(1, .ptr b1 0), (2, .ptr b2 0), (6, iv x9), (7, .ptr b11 0), (60, litL l2 m3 aN0.Joints), (61, iv (aN0.Joints.length : Int)), (62, iv x9), (82, .bool ((decide (c10.Kind < (1:Int)) || decide (c10.Kind > (4:Int))) || ((c10.Ends.length : Int) != c10.Kind)))] J, G⟩) ?_ ?_
       ·refine bc (b := (decide (c10.Kind < (1:Int)) || decide (c10.Kind > (4:Int)))) (fun hg => ?_) (fun hg => ?_)
        ·refine pGn hg (pGn hg (pGn hg (pGn hg (pGn hg (pGn hg (pPt hg (.bool _) ?_))))))
         exact pE ⟨_, St.hav _ ⟨rfl, rfl, rfl, rfl, rfl, rfl, rfl, by rw [hg]; rfl, trivial⟩⟩
        ·refine pGy hg (pF tF80_2 (pGy hg ?_))
         refine pLo hO 0 (.lit _ _ _) tA78 (pGy hg ?_)
         refine pLen tS78 (pGy hg ?_)
         refine pF tF80_0 (pGy hg ?_)
         refine pLo hO 0 (.int _ _) tA3 (pGy hg ?_)
         refine pBi ?_
         refine pPf hg (.bool _) ?_
         exact pE ⟨_, St.hav _ ⟨rfl, rfl, rfl, rfl, rfl, rfl, rfl, by rw [hg]; rfl, trivial⟩⟩
       ·rintro _ ⟨J, rfl⟩
        refine pE (gn (lck hk (fun hk => ?_) (fun hk => ?_)))
        ·refine lsq (lrg (pM (.int _ _) ?_))
         refine pBd [_, _] t096 tP96 ?_
         refine pSt (xs := [_, _]) hO 1 tZ96 rfl (fun G hO => pE (gn (lrt (gr (br (gr (gr (br (gr (have hk := lx hx1 hk; ?_))))))))))
         replace hk := Option.some.inj hk; subst hk; exact finZ hO (fz_agg (n := 2) (fz_c (fz_int _ _) (fz_c (fz_int _ _) (fz_n)))) (resS hO 1 [_, _] tA96 tZ96 resN)
        ·refine lsk (gn (lsq (lrg (pFL tF80_2 hO 0 (.lit _ _ _) tA78 ?_))))
         refine pLen tS78 ?_
         refine pM (.int _ _) (pE (gn (lbl ?_)))
         refine wpL_loopO (F := f60_L3 aN0 x9 c10) (fun s S' => ∃ (J : Nat → V) (G : Heap), Owns H G [.blk b2 (.cells 2 [iv 0, iv 0]), .blk b1 (.cells 2 [litL l1 0 aN0.Pieces, litL l2 m3 aN0.Joints])] ∧ S' = ⟨hav [(1, .ptr b1 0), (2, .ptr b2 0), (6, iv x9), (60, litL l2 m3 aN0.Joints), (61, iv (aN0.Joints.length : Int)), (62, iv x9), (86, litL m3 0 c10.Ends), (87, iv (c10.Ends.length : Int)), (88, iv s)] J, G⟩) hk ⟨_, _, (pk hO [1, 2]), sh⟩ ?_
         rintro x12 _ y2 ⟨J, G, hO, rfl⟩ hk hx2
         refine lsq (lrg (pBi (pE (gn (lsq (lck hk (fun hk => ?_) (fun hk => ?_)))))))
         ·refine lsk (gn (lsq (lbl (lsq (lrg (bk hk fun c13 hc13 hk => pX hc13 tE78 tZ106 ?_))))))
          refine pLp (.agg [_, _]) (rd2 (lm := 0) (off := 0) hc13 tA106 tZ106) (pNew hO tZ106 t0106 (fun b14 G hO => ?_))
          refine pSt (xs := [_, _]) hO 0 tZ106 rfl (fun G hO => pE (gn (lsq (lrg ?_))))
          refine pFL tF106_0 hO 0 (.int _ _) tA3 ?_
          refine pBi ?_
          refine pM (.bool _) ?_
          refine wpR_mid (l1 := [_, _, _, _, _, _, _]) (fun S' => ∃ J, S' = ⟨hav [(1, .ptr b1 0), (2, .ptr b2 0), (6, iv x9), (9, .ptr b14 0), (60, litL l2 m3 aN0.Joints), (61, iv (aN0.Joints.length : Int)), (62, iv x9), (86, litL m3 0 c10.Ends), (87, iv (c10.Ends.length : Int)), (88, iv x12), (102, .bool (decide (c13.Piece < (0:Int)) || decide (c13.Piece ≥ (aN0.Pieces.length : Int))))] J, G⟩) ?_ ?_
          ·refine bc (b := decide (c13.Piece < (0:Int))) (fun hg => ?_) (fun hg => ?_)
           ·refine pGn hg (pGn hg (pGn hg (pGn hg (pGn hg (pGn hg (pPt hg (.bool _) ?_))))))
            exact pE ⟨_, St.hav _ ⟨rfl, rfl, rfl, rfl, rfl, rfl, rfl, rfl, rfl, rfl, by rw [hg]; rfl, trivial⟩⟩
           ·refine pGy hg (pF tF106_0 (pGy hg ?_))
            refine pLo hO 0 (.int _ _) tA3 (pGy hg ?_)
            refine pF tF41_0 (pGy hg ?_)
            refine pLo hO 2 (.lit _ _ _) tA38 (pGy hg ?_)
            refine pLen tS38 (pGy hg ?_)
            refine pBi ?_
            refine pPf hg (.bool _) ?_
            exact pE ⟨_, St.hav _ ⟨rfl, rfl, rfl, rfl, rfl, rfl, rfl, rfl, rfl, rfl, by rw [hg]; rfl, trivial⟩⟩
          ·rintro _ ⟨J, rfl⟩
           refine pM (.bool _) ?_
           refine wpR_mid (l1 := [_, _, _, _]) (fun S' => ∃ J, S' = ⟨hav [(1, .ptr b1 0), (2, .ptr b2 0), (6, iv x9), (9, .ptr b14 0), (60, litL l2 m3 aN0.Joints), (61, iv (aN0.Joints.length : Int)), (62, iv x9), (86, litL m3 0 c10.Ends), (87, iv (c10.Ends.length : Int)), (88, iv x12), (107, .bool ((decide (c13.Piece < (0:Int)) || decide (c13.Piece ≥ (aN0.Pieces.length : Int))) || decide (c13.Side < (0:Int))))] J, G⟩) ?_ ?_
           ·refine bc (b := (decide (c13.Piece < (0:Int)) || decide (c13.Piece ≥ (aN0.Pieces.length : Int)))) (fun hg => ?_) (fun hg => ?_)
            ·refine pGn hg (pGn hg (pGn hg (pPt hg (.bool _) ?_)))
             exact pE ⟨_, St.hav _ ⟨rfl, rfl, rfl, rfl, rfl, rfl, rfl, rfl, rfl, rfl, by rw [hg]; rfl, trivial⟩⟩
            ·refine pGy hg (pF tF106_1 (pGy hg ?_))
             refine pLo hO 0 (.int _ _) tA3 (pGy hg ?_)
             refine pBi ?_
             refine pPf hg (.bool _) ?_
             exact pE ⟨_, St.hav _ ⟨rfl, rfl, rfl, rfl, rfl, rfl, rfl, rfl, rfl, rfl, by rw [hg]; rfl, trivial⟩⟩
           ·rintro _ ⟨J, rfl⟩
            refine pM (.bool _) ?_
            refine wpR_mid (l1 := [_, _, _, _]) (fun S' => ∃ J, S' = ⟨hav [(1, .ptr b1 0), (2, .ptr b2 0), (6, iv x9), (60, litL l2 m3 aN0.Joints), (61, iv (aN0.Joints.length : Int)), (62, iv x9), (86, litL m3 0 c10.Ends), (87, iv (c10.Ends.length : Int)), (88, iv x12), (112, .bool (((decide (c13.Piece < (0:Int)) || decide (c13.Piece ≥ (aN0.Pieces.length : Int))) || decide (c13.Side < (0:Int))) || decide (c13.Side > (1:Int))))] J, G⟩) ?_ ?_
            ·refine bc (b := ((decide (c13.Piece < (0:Int)) || decide (c13.Piece ≥ (aN0.Pieces.length : Int))) || decide (c13.Side < (0:Int)))) (fun hg => ?_) (fun hg => ?_)
             ·refine pGn hg (pGn hg (pGn hg (pPt hg (.bool _) ?_)))
              exact pE ⟨_, St.hav _ ⟨rfl, rfl, rfl, rfl, rfl, rfl, rfl, rfl, rfl, by rw [hg]; rfl, trivial⟩⟩
             ·refine pGy hg (pF tF106_1 (pGy hg ?_))
              refine pLo hO 0 (.int _ _) tA3 (pGy hg ?_)
              refine pBi ?_
              refine pPf hg (.bool _) ?_
              exact pE ⟨_, St.hav _ ⟨rfl, rfl, rfl, rfl, rfl, rfl, rfl, rfl, rfl, by rw [hg]; rfl, trivial⟩⟩
            ·rintro _ ⟨J, rfl⟩
             refine pE (gn (lck hk (fun hk => ?_) (fun hk => ?_)))
             ·refine lsq (lrg (pM (.int _ _) ?_))
              refine pBd [_, _] t096 tP96 ?_
              refine pSt (xs := [_, _]) hO 1 tZ96 rfl (fun G hO => pE (gn (lrt (br (gr (gr (br (br (gr (gr (br (gr (have hk := lx hx2 hk; have hk := lx hx1 hk; ?_)))))))))))))
              replace hk := Option.some.inj hk; subst hk; exact finZ hO (fz_agg (n := 2) (fz_c (fz_int _ _) (fz_c (fz_int _ _) (fz_n)))) (resS hO 1 [_, _] tA96 tZ96 resN)
             ·refine lsk (bn (gn (lrg (pBi ?_))))
              refine pM (.int _ _) (pE (gn ?_))
              cases hk; exact ⟨_, rfl, _, _, (pk hO [1, 2]), sh⟩
         ·refine lex (ge (ge (be (bn (gn (have hk := lx hx2 hk; lrg (pBi ?_)))))))
          refine pM (.int _ _) (pE (gn ?_))
          cases hk; exact ⟨_, rfl, _, _, hO, sh⟩
     ·refine lex (ge (ge (be (gn (have hk := lx hx1 hk; lsq (lrg (pMm ByteArray Bool hO (fun b15 G hO => ?_))))))))
      refine pA (.mref _) (pE (gn (lsq (lsq (lrg ?_)))))
      refine pFL tF41_1 hO 2 (.lit _ _ _) tA39 ?_
      refine pLen tS39 ?_
      refine pM (.int _ _) (pE (gn (lbl ?_)))
      refine wpL_loopO (F := f60_L4 aN0) (fun s S' => ∃ (J : Nat → V) (G : Heap), Owns H G [.blk b15 (.mp (kvs s.1)), .blk b2 (.cells 2 [iv 0, iv 0]), .blk b1 (.cells 2 [litL l1 0 aN0.Pieces, litL l2 m3 aN0.Joints])] ∧ S' = ⟨hav [(1, .ptr b1 0), (2, .ptr b2 0), (3, .mref b15), (119, litL l2 m3 aN0.Joints), (120, iv (aN0.Joints.length : Int)), (121, iv s.2)] J, G⟩) hk ⟨_, _, hO, sh⟩ ?_
      rintro ⟨x16, x17⟩ _ y1 ⟨J, G, hO, rfl⟩ hk hx1
      refine lsq (lrg (pBi (pE (gn (lsq (lck hk (fun hk => ?_) (fun hk => ?_)))))))
      ·refine lsk (gn (wpL_mid (fun S' => ∃ (x18 : List (ByteArray × Bool)) (J : Nat → V) (G : Heap), f60_k5 x17 x18 = some y1 ∧ Owns H G [.blk b15 (.mp (kvs x18)), .blk b2 (.cells 2 [iv 0, iv 0]), .blk b1 (.cells 2 [litL l1 0 aN0.Pieces, litL l2 m3 aN0.Joints])] ∧ S' = ⟨hav [(1, .ptr b1 0), (2, .ptr b2 0), (3, .mref b15), (119, litL l2 m3 aN0.Joints), (120, iv (aN0.Joints.length : Int)), (121, iv x17)] J, G⟩) ?_ ?_))
       ·refine lbl (lsq (lrg (pM (.int _ _) (bk hk fun c19 hc19 hk => ?_))))
        refine pX hc19 tE39 tZ80 ?_
        refine pLp (.agg [_, _, _]) (rd2 (lm := m3) (off := 0) hc19 tA80 tZ80) (pNew hO tZ80 t080 (fun b20 G hO => ?_))
        refine pA (.int _ _) ?_
        refine pSt (xs := [_, _, _]) hO 0 tZ80 rfl (fun G hO => pE (gn (lsq (lsq (lrg ?_)))))
        refine pFL tF80_0 hO 0 (.int _ _) tA3 ?_
        refine pBi (pE (gn (lck hk (fun hk => ?_) (fun hk => ?_))))
        ·refine lsq (lsq (lrg (pFL tF80_1 hO 0 (.str _) tA9 ?_)))
         refine pB (a := .str _) (b := .str _) (pE (gn (lck hk (fun hk => ?_) (fun hk => ?_))))
         ·refine lsq (lrg (pM (.int _ _) ?_))
          refine pBd [_, _] t096 tP96 ?_
          refine pSt (xs := [_, _]) hO 2 tZ96 rfl (fun G hO => pE (gn (lrt (gr (gr (br (gr (gr (br (gr (have hk := lx hx1 hk; ?_)))))))))))
          replace hk := Option.some.inj hk; subst hk; exact finZ hO (fz_agg (n := 2) (fz_c (fz_int _ _) (fz_c (fz_int _ _) (fz_n)))) (resS hO 2 [_, _] tA96 tZ96 resN)
         ·exact lsk (gn (lex (ge (be (gn (⟨x16, _, _, hk, (pk hO [1, 2, 3]), sh⟩))))))
        ·refine lsk (gn (lsq (lsq (lrg (pFL tF80_1 hO 0 (.str _) tA9 (bk hk fun v21 hv21 hk => ?_))))))
         refine pCall (fun _ => f78_run hv21) ?_
         refine pU ?_
         refine pM (.bool _) ?_
         refine wpR_mid (l1 := [_, _, _, _, _]) (fun S' => ∃ J, S' = ⟨hav [(1, .ptr b1 0), (2, .ptr b2 0), (3, .mref b15), (10, iv x17), (11, .ptr b20 0), (119, litL l2 m3 aN0.Joints), (120, iv (aN0.Joints.length : Int)), (121, iv x17), (143, .bool (!v21 || (mget c19.Name x16 false)))] J, G⟩) ?_ ?_
         ·refine bc (b := !v21) (fun hg => ?_) (fun hg => ?_)
          ·refine pGn hg (pGn hg (pGn hg (pGn hg (pPt hg (.bool _) ?_))))
           exact pE ⟨_, St.hav _ ⟨rfl, rfl, rfl, rfl, rfl, rfl, rfl, rfl, by rw [hg]; rfl, trivial⟩⟩
          ·refine pGy hg (pM (.mref _) (pGy hg ?_))
           refine pF tF80_1 (pGy hg ?_)
           refine pLo hO 0 (.str _) tA9 (pGy hg ?_)
           refine pLk c19.Name (false : Bool) (hO.get (k := 1) rfl).1 tM120 fit_str tY4 ?_
           refine pPf hg (.bool _) ?_
           exact pE ⟨_, St.hav _ ⟨rfl, rfl, rfl, rfl, rfl, rfl, rfl, rfl, by rw [hg]; rfl, trivial⟩⟩
         ·rintro _ ⟨J, rfl⟩
          refine pE (gn (lck hk (fun hk => ?_) (fun hk => ?_)))
          ·refine lsq (lrg (pM (.int _ _) ?_))
           refine pBd [_, _] t096 tP96 ?_
           refine pSt (xs := [_, _]) hO 2 tZ96 rfl (fun G hO => pE (gn (lrt (gr (br (gr (gr (br (gr (have hk := lx hx1 hk; ?_))))))))))
           replace hk := Option.some.inj hk; subst hk; exact finZ hO (fz_agg (n := 2) (fz_c (fz_int _ _) (fz_c (fz_int _ _) (fz_n)))) (resS hO 2 [_, _] tA96 tZ96 resN)
          ·refine lsk (gn (lrg (pM (.mref _) ?_)))
           refine pFL tF80_1 hO 0 (.str _) tA9 ?_
           refine pUp hO 1 c19.Name true tM120 fit_str rfl (fun G hO => pE (bn (gn ?_)))
           exact ⟨mset c19.Name true x16, _, _, hk, (pk hO [1, 2, 3]), sh⟩
       ·rintro _ ⟨x18, J, G, hk, hO, rfl⟩
        refine lrg (pBi ?_)
        refine pM (.int _ _) (pE (gn ?_))
        cases hk; exact ⟨_, rfl, _, _, hO, sh⟩
      ·refine lex (ge (ge (be (gn (have hk := lx hx1 hk; lsq (lrg (pMm End Int hO (fun b22 G hO => ?_))))))))
       refine pA (.mref _) (pE (gn (lsq (lsq (lrg ?_)))))
       refine pFL tF41_1 hO 3 (.lit _ _ _) tA39 ?_
       refine pLen tS39 ?_
       refine pM (.int _ _) (pE (gn (lbl ?_)))
       refine wpL_loopO (F := f60_L6 aN0) (fun s S' => ∃ (J : Nat → V) (G : Heap), Owns H G [.blk b22 (.mp (kvs s.1)), .blk b2 (.cells 2 [iv 0, iv 0]), .blk b1 (.cells 2 [litL l1 0 aN0.Pieces, litL l2 m3 aN0.Joints])] ∧ S' = ⟨hav [(1, .ptr b1 0), (2, .ptr b2 0), (12, .mref b22), (152, litL l2 m3 aN0.Joints), (153, iv (aN0.Joints.length : Int)), (154, iv s.2)] J, G⟩) hk ⟨_, _, (pk hO [0, 2, 3]), sh⟩ ?_
       rintro ⟨x23, x24⟩ _ y1 ⟨J, G, hO, rfl⟩ hk hx1
       refine lsq (lrg (pBi (pE (gn (lsq (lck hk (fun hk => ?_) (fun hk => ?_)))))))
       ·refine lsk (gn (lsq (lbl (lsq (lrg (bk hk fun c25 hc25 hk => pX hc25 tE39 tZ80 ?_))))))
        refine pLp (.agg [_, _, _]) (rd2 (lm := m3) (off := 0) hc25 tA80 tZ80) (pNew hO tZ80 t080 (fun b26 G hO => ?_))
        refine pSt (xs := [_, _, _]) hO 0 tZ80 rfl (fun G hO => pE (gn (lsq (lrg ?_))))
        refine pFL tF80_2 hO 0 (.lit _ _ _) tA78 ?_
        refine pLen tS78 ?_
        refine pM (.int _ _) (pE (gn (lbl ?_)))
        refine wpL_loopO (F := f60_L7 x24 c25) (fun s S' => ∃ (J : Nat → V) (G : Heap), Owns H G [.blk b22 (.mp (kvs s.1)), .blk b2 (.cells 2 [iv 0, iv 0]), .blk b1 (.cells 2 [litL l1 0 aN0.Pieces, litL l2 m3 aN0.Joints])] ∧ S' = ⟨hav [(1, .ptr b1 0), (2, .ptr b2 0), (12, .mref b22), (152, litL l2 m3 aN0.Joints), (153, iv (aN0.Joints.length : Int)), (154, iv x24), (159, litL m3 0 c25.Ends), (160, iv (c25.Ends.length : Int)), (161, iv s.2)] J, G⟩) hk ⟨_, _, (pk hO [1, 2, 3]), sh⟩ ?_
        rintro ⟨x27, x28⟩ _ y2 ⟨J, G, hO, rfl⟩ hk hx2
        refine lsq (lrg (pBi (pE (gn (lsq (lck hk (fun hk => ?_) (fun hk => ?_)))))))
        ·refine lsk (gn (lsq (lbl (lsq (lrg (bk hk fun c29 hc29 hk => pX hc29 tE78 tZ106 ?_))))))
         refine pLp (.agg [_, _]) (rd2 (lm := 0) (off := 0) hc29 tA106 tZ106) (pNew hO tZ106 t0106 (fun b30 G hO => ?_))
         refine pSt (xs := [_, _]) hO 0 tZ106 rfl (fun G hO => pE (gn ?_))
         refine wpL_drw [(0, true), (1, true), (2, true), (3, false), (4, true), (5, true), (6, false)] [_, _, _, _, _, _, _] (by decide +kernel) (by rfl) ?_
         refine pM (.mref _) ?_
         refine pLs hO 0 [_, _] tA106 tZ106 ?_
         refine pLk c29 (0 : Int) (hO.get (k := 1) rfl).1 tM122 fitEndK tY3 ?_
         refine pBi ?_
         refine pEn hO 1 c29 (0 : Int) tM122 fitEndK tY3 rfl (fun G hO => ?_)
         refine pEx (.int _ _) ?_
         refine pEs hO 1 c29 (0 : Int) (w64 ((mget c29 x27 0) + (1:Int))) rfl (fun G hO => pE (bn (gn (lrg ?_))))
         refine pBi ?_
         refine pM (.int _ _) (pE (gn ?_))
         cases hk; exact ⟨_, rfl, _, _, (pk hO [1, 2, 3]), sh⟩
        ·refine lex (ge (ge (be (bn (gn (have hk := lx hx2 hk; lrg (pBi ?_)))))))
         refine pM (.int _ _) (pE (gn ?_))
         cases hk; exact ⟨_, rfl, _, _, hO, sh⟩
       ·refine lex (ge (ge (be (gn (have hk := lx hx1 hk; lsq (lsq (lrg (pFL tF41_0 hO 2 (.lit _ _ _) tA38 ?_))))))))
        refine pLen tS38 ?_
        refine pM (.int _ _) (pE (gn (lbl ?_)))
        refine wpL_loopO (F := f60_L8 aN0 x23) (fun s S' => ∃ (J : Nat → V) (G : Heap), Owns H G [.blk b22 (.mp (kvs x23)), .blk b2 (.cells 2 [iv 0, iv 0])] ∧ S' = ⟨hav [(2, .ptr b2 0), (12, .mref b22), (175, iv (aN0.Pieces.length : Int)), (176, iv s)] J, G⟩) hk ⟨_, _, (pk hO [0, 1]), sh⟩ ?_
        rintro x31 _ y1 ⟨J, G, hO, rfl⟩ hk hx1
        refine lsq (lrg (pBi (pE (gn (lsq (lck hk (fun hk => ?_) (fun hk => ?_)))))))
        ·refine lsk (gn (lsq (lbl (lsq (lrg (pM (.int _ _) ?_))))))
         refine pA (.int _ _) (pE (gn (lsq (lrg ?_))))
         refine pM (.mref _) ?_
         refine pM (.int _ _) ?_
         refine pBd [_, _] t0106 tP106 ?_
         refine pLk ({ Piece := x31, Side := (0:Int) } : End) (0 : Int) (hO.get (k := 0) rfl).1 tM122 fitEndK tY3 ?_
         refine pBi ?_
         refine pM (.bool _) ?_
         refine wpR_mid (l1 := [_, _, _, _, _, _]) (fun S' => ∃ J, S' = ⟨hav [(2, .ptr b2 0), (12, .mref b22), (17, iv x31), (175, iv (aN0.Pieces.length : Int)), (176, iv x31), (190, .bool (((mget ({ Piece := x31, Side := (0:Int) } : End) x23 0) != (1:Int)) || ((mget ({ Piece := x31, Side := (1:Int) } : End) x23 0) != (1:Int))))] J, G⟩) ?_ ?_
         ·refine bc (b := ((mget ({ Piece := x31, Side := (0:Int) } : End) x23 0) != (1:Int))) (fun hg => ?_) (fun hg => ?_)
          ·refine pGn hg (pGn hg (pGn hg (pGn hg (pGn hg (pPt hg (.bool _) ?_)))))
           exact pE ⟨_, St.hav _ ⟨rfl, rfl, rfl, rfl, rfl, by rw [hg]; rfl, trivial⟩⟩
          ·refine pGy hg (pM (.mref _) (pGy hg ?_))
           refine pM (.int _ _) (pGy hg ?_)
           refine pBd [_, _] t0106 tP106 (pGy hg ?_)
           refine pLk ({ Piece := x31, Side := (1:Int) } : End) (0 : Int) (hO.get (k := 0) rfl).1 tM122 fitEndK tY3 (pGy hg ?_)
           refine pBi ?_
           refine pPf hg (.bool _) ?_
           exact pE ⟨_, St.hav _ ⟨rfl, rfl, rfl, rfl, rfl, by rw [hg]; rfl, trivial⟩⟩
         ·rintro _ ⟨J, rfl⟩
          refine pE (gn (lck hk (fun hk => ?_) (fun hk => ?_)))
          ·refine lsq (lrg (pM (.int _ _) ?_))
           refine pBd [_, _] t096 tP96 ?_
           refine pSt (xs := [_, _]) hO 1 tZ96 rfl (fun G hO => pE (gn (lrt (br (gr (gr (br (gr (have hk := lx hx1 hk; ?_)))))))))
           replace hk := Option.some.inj hk; subst hk; exact finZ hO (fz_agg (n := 2) (fz_c (fz_int _ _) (fz_c (fz_int _ _) (fz_n)))) (resS hO 1 [_, _] tA96 tZ96 resN)
          ·refine lsk (bn (gn (lrg (pBi ?_))))
           refine pM (.int _ _) (pE (gn ?_))
           cases hk; exact ⟨_, rfl, _, _, hO, sh⟩
        ·refine lex (ge (ge (be (gn (have hk := lx hx1 hk; lsq (lrg (pBd [_, _] t096 tP96 ?_)))))))
         refine pSt (xs := [_, _]) hO 1 tZ96 rfl (fun G hO => pE (gn (lrt ?_)))
         replace hk := Option.some.inj hk; subst hk; exact finZ hO (fz_agg (n := 2) (fz_c (fz_int _ _) (fz_c (fz_int _ _) (fz_n)))) (resS hO 1 [_, _] tA96 tZ96 resN)
def f44 (aN0 : Net) : Option Bool :=
 ((f60 aN0).bind fun v2 => some ((v2.Code == 0) && ((v2.At == 0) && true)))
theorem f44_run {aN0 : Net} {r : Bool} {l1 l2 m3 : Nat} (hk : f44 aN0 = some r) (hlk : 0 < lk.length := by simp) : runL Try.prog hh 44 [.agg [litL l1 0 aN0.Pieces, litL l2 m3 aN0.Joints]] H lk = some (.bool r, H) := by
 refine run_start Try.func44 rfl Try.ntmps44 Try.results44 rfl rfl fun hO => ?_
 unfold f44 at hk
 refine lsq (lrg (pBox (cs := [_, _]) hO tZ41 (fun b1 G hO => ?_)))
 refine pA (.bool _) (pE (gn (lsq (lrg ?_))))
 refine pLs hO 0 [_, _] tA41 tZ41 (bk hk fun v2 hv2 hk => ?_)
 refine pCall (fun _ => f60_run hv2) ?_
 refine pBd [_, _] t096 tP96 ?_
 refine pGq tG96 (eqc (eqi _ _ _) (eqc (eqi _ _ _) (rfl))) ?_
 refine pA (.bool _) (pE (gn (lrt ?_)))
 cases hk; exact fin0 hO
end
end Go.Proofs.Ytblodpbcinkehaa.K
