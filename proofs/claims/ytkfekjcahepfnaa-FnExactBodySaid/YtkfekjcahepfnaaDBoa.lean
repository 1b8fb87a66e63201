/-
  The functions that FnExactBody reaches, as typed Lean functions, and that the interpreter computes them. Part 1 of 2. No conditions.
-/
import Derived.Test.YtkfekjcahepfnaaKzh
import Derived.Test.YtkfekjcahepfnaaProg
set_option linter.unusedVariables false
set_option linter.unusedSimpArgs false
set_option maxRecDepth 100000
namespace Go.Proofs.Ytkfekjcahepfnaa.K
noncomputable section
def hh : Hints := { modes := fun k => bif Nat.beq k 103 || Nat.beq k 108 || Nat.beq k 113 || Nat.beq k 179 || Nat.beq k 228 || Nat.beq k 229 || Nat.beq k 310 then [.exact] else [], thaw := fun k => Nat.beq k 80 || Nat.beq k 81 || Nat.beq k 111 || Nat.beq k 156 || Nat.beq k 197 || Nat.beq k 198 || Nat.beq k 232 || Nat.beq k 287 || Nat.beq k 333, grow := fun k => false, keep := fun k => Nat.beq k 198 }
structure Piece where
  Name : ByteArray
  Len : Int
  Speed : Int
  Brake : Int
instance : GoT Piece := ⟨4, by decide, fun l x => GoT.encL l x.Name ++ (GoT.encL l x.Len ++ (GoT.encL l x.Speed ++ (GoT.encL l x.Brake))), fun x => by simp only [List.length_append, GoT.len]; rfl, fun x => by simp only [cleanL_append, GoT.clean]; rfl, fun x => by simp only [List.all_append, GoT.cell]; rfl⟩
instance : GoM Piece := GoM.via (fun x => (x.Name, x.Len, x.Speed, x.Brake) : Piece → ByteArray × Int × Int × Int) rfl fun _ _ => rfl
instance : GoFl Piece := ⟨fun G x => GoFl.fl (α := ByteArray × Int × Int × Int) G (x.Name, x.Len, x.Speed, x.Brake), fun l x => GoFl.lev (α := ByteArray × Int × Int × Int) l (x.Name, x.Len, x.Speed, x.Brake), GoFl.pos (α := ByteArray × Int × Int × Int)⟩
theorem foc_Piece_Name : Foc Piece ByteArray (fun x => x.Name) (fun x y => { x with Name := y }) 0 := Foc.via (α := Piece) (f := (fun x => (x.Name, x.Len, x.Speed, x.Brake) : Piece → ByteArray × Int × Int × Int)) (hz := rfl) (he := fun _ _ => rfl) (Foc.fst) fun _ _ => rfl
theorem foc_Piece_Len : Foc Piece Int (fun x => x.Len) (fun x y => { x with Len := y }) 1 := Foc.via (α := Piece) (f := (fun x => (x.Name, x.Len, x.Speed, x.Brake) : Piece → ByteArray × Int × Int × Int)) (hz := rfl) (he := fun _ _ => rfl) (Foc.comp Foc.snd (Foc.fst)) fun _ _ => rfl
theorem foc_Piece_Speed : Foc Piece Int (fun x => x.Speed) (fun x y => { x with Speed := y }) 2 := Foc.via (α := Piece) (f := (fun x => (x.Name, x.Len, x.Speed, x.Brake) : Piece → ByteArray × Int × Int × Int)) (hz := rfl) (he := fun _ _ => rfl) (Foc.comp Foc.snd (Foc.comp Foc.snd (Foc.fst))) fun _ _ => rfl
theorem foc_Piece_Brake : Foc Piece Int (fun x => x.Brake) (fun x y => { x with Brake := y }) 3 := Foc.via (α := Piece) (f := (fun x => (x.Name, x.Len, x.Speed, x.Brake) : Piece → ByteArray × Int × Int × Int)) (hz := rfl) (he := fun _ _ => rfl) (Foc.comp Foc.snd (Foc.comp Foc.snd (Foc.snd))) fun _ _ => rfl
structure End where
  Piece : Int
  Side : Int
  deriving DecidableEq
instance : GoT End := ⟨2, by decide, fun l x => GoT.encL l x.Piece ++ (GoT.encL l x.Side), fun x => by simp only [List.length_append, GoT.len]; rfl, fun x => by simp only [cleanL_append, GoT.clean]; rfl, fun x => by simp only [List.all_append, GoT.cell]; rfl⟩
instance : GoM End := GoM.via (fun x => (x.Piece, x.Side) : End → Int × Int) rfl fun _ _ => rfl
instance : GoFl End := ⟨fun G x => GoFl.fl (α := Int × Int) G (x.Piece, x.Side), fun l x => GoFl.lev (α := Int × Int) l (x.Piece, x.Side), GoFl.pos (α := Int × Int)⟩
theorem foc_End_Piece : Foc End Int (fun x => x.Piece) (fun x y => { x with Piece := y }) 0 := Foc.via (α := End) (f := (fun x => (x.Piece, x.Side) : End → Int × Int)) (hz := rfl) (he := fun _ _ => rfl) (Foc.fst) fun _ _ => rfl
theorem foc_End_Side : Foc End Int (fun x => x.Side) (fun x y => { x with Side := y }) 1 := Foc.via (α := End) (f := (fun x => (x.Piece, x.Side) : End → Int × Int)) (hz := rfl) (he := fun _ _ => rfl) (Foc.snd) fun _ _ => rfl
instance : GoP End := ⟨fun x => .agg ((GoT.encL 0) x), fun _ => rfl⟩
theorem fitEndK : KeyFit (.many [.i, .i]) End := fun a b => by
  have h : eqKey (.many [.i, .i]) (GoP.pv a) (GoP.pv b) = some ((a.Piece == b.Piece) && ((a.Side == b.Side) && (true))) := by
    show (if ((GoT.encL 0) a).length = 2 ∧ ((GoT.encL 0) b).length = 2 then eqCells _ ((GoT.encL 0) a) ((GoT.encL 0) b) else none) = _
    rw [if_pos ⟨GoT.len a, GoT.len b⟩]
    exact eqc (eqi _ _ _) (eqc (eqi _ _ _) (rfl))
  rw [h]
  congr 1
  cases a; cases b
  rw [Bool.eq_iff_iff]
  simp
structure Joint where
  Kind : Int
  Name : ByteArray
  Ends : List End
instance : GoT Joint := ⟨3, by decide, fun l x => GoT.encL l x.Kind ++ (GoT.encL l x.Name ++ (GoT.encL l x.Ends)), fun x => by simp only [List.length_append, GoT.len]; rfl, fun x => by simp only [cleanL_append, GoT.clean]; rfl, fun x => by simp only [List.all_append, GoT.cell]; rfl⟩
instance : GoM Joint := GoM.via (fun x => (x.Kind, x.Name, x.Ends) : Joint → Int × ByteArray × (List End)) rfl fun _ _ => rfl
theorem foc_Joint_Kind : Foc Joint Int (fun x => x.Kind) (fun x y => { x with Kind := y }) 0 := Foc.via (α := Joint) (f := (fun x => (x.Kind, x.Name, x.Ends) : Joint → Int × ByteArray × (List End))) (hz := rfl) (he := fun _ _ => rfl) (Foc.fst) fun _ _ => rfl
theorem foc_Joint_Name : Foc Joint ByteArray (fun x => x.Name) (fun x y => { x with Name := y }) 1 := Foc.via (α := Joint) (f := (fun x => (x.Kind, x.Name, x.Ends) : Joint → Int × ByteArray × (List End))) (hz := rfl) (he := fun _ _ => rfl) (Foc.comp Foc.snd (Foc.fst)) fun _ _ => rfl
theorem foc_Joint_Ends : Foc Joint (List End) (fun x => x.Ends) (fun x y => { x with Ends := y }) 2 := Foc.via (α := Joint) (f := (fun x => (x.Kind, x.Name, x.Ends) : Joint → Int × ByteArray × (List End))) (hz := rfl) (he := fun _ _ => rfl) (Foc.comp Foc.snd (Foc.snd)) fun _ _ => rfl
theorem th_Joint {H : Heap} {d n : Nat} {rs rs1 : List Res} {cs : List V} {x : Joint} (h : ThV n H d rs cs (x.Kind, x.Name, x.Ends) rs1) : ThV n H d rs cs x rs1 := h
theorem ls_Joint {H G : Heap} {rs : List Res} {S F : List Nat} {x : Joint} {cs : List V} {j : Nat} (hO : Owns H G rs) (hj : rs[j]? = some (Tree S F x cs)) (lv n : Nat) (hn : Nat.ble (GoM.dep Joint) n = true := by rfl) : ∃ M, lendV lv G (n + 1) (.agg cs) = some (.agg [.int .i64 x.Kind, .str x.Name, .lit lv x.Ends.length ((flatL 0) x.Ends)], M) := by
  have h := ld_trS hO hj lv n hn
  have e : GoT.encL lv x = [.int .i64 x.Kind, .str x.Name, .lit lv x.Ends.length ((flatL 0) x.Ends)] := by
    show ([.int .i64 x.Kind, .str x.Name, .lit lv x.Ends.length (flatL lv x.Ends)] : List V) = _
    simp only [flat_lv]
  rwa [e] at h
structure Net where
  Pieces : List Piece
  Joints : List Joint
instance : GoT Net := ⟨2, by decide, fun l x => GoT.encL l x.Pieces ++ (GoT.encL l x.Joints), fun x => by simp only [List.length_append, GoT.len]; rfl, fun x => by simp only [cleanL_append, GoT.clean]; rfl, fun x => by simp only [List.all_append, GoT.cell]; rfl⟩
instance : GoM Net := GoM.via (fun x => (x.Pieces, x.Joints) : Net → (List Piece) × (List Joint)) rfl fun _ _ => rfl
theorem foc_Net_Pieces : Foc Net (List Piece) (fun x => x.Pieces) (fun x y => { x with Pieces := y }) 0 := Foc.via (α := Net) (f := (fun x => (x.Pieces, x.Joints) : Net → (List Piece) × (List Joint))) (hz := rfl) (he := fun _ _ => rfl) (Foc.fst) fun _ _ => rfl
theorem foc_Net_Joints : Foc Net (List Joint) (fun x => x.Joints) (fun x y => { x with Joints := y }) 1 := Foc.via (α := Net) (f := (fun x => (x.Pieces, x.Joints) : Net → (List Piece) × (List Joint))) (hz := rfl) (he := fun _ _ => rfl) (Foc.snd) fun _ _ => rfl
theorem th_Net {H : Heap} {d n : Nat} {rs rs1 : List Res} {cs : List V} {x : Net} (h : ThV n H d rs cs (x.Pieces, x.Joints) rs1) : ThV n H d rs cs x rs1 := h
theorem ls_Net {H G : Heap} {rs : List Res} {S F : List Nat} {x : Net} {cs : List V} {j : Nat} (hO : Owns H G rs) (hj : rs[j]? = some (Tree S F x cs)) (lv n : Nat) (hn : Nat.ble (GoM.dep Net) n = true := by rfl) : ∃ M, lendV lv G (n + 1) (.agg cs) = some (.agg [.lit lv x.Pieces.length ((flatL 0) x.Pieces), .lit lv x.Joints.length (flatL lv x.Joints)], M) := by
  have h := ld_trS hO hj lv n hn
  have e : GoT.encL lv x = [.lit lv x.Pieces.length ((flatL 0) x.Pieces), .lit lv x.Joints.length (flatL lv x.Joints)] := by
    show ([.lit lv x.Pieces.length (flatL lv x.Pieces), .lit lv x.Joints.length (flatL lv x.Joints)] : List V) = _
    simp only [flat_lv]
  rwa [e] at h
structure Spot where
  Piece : Int
  At : Int
  Way : Int
instance : GoT Spot := ⟨3, by decide, fun l x => GoT.encL l x.Piece ++ (GoT.encL l x.At ++ (GoT.encL l x.Way)), fun x => by simp only [List.length_append, GoT.len]; rfl, fun x => by simp only [cleanL_append, GoT.clean]; rfl, fun x => by simp only [List.all_append, GoT.cell]; rfl⟩
instance : GoM Spot := GoM.via (fun x => (x.Piece, x.At, x.Way) : Spot → Int × Int × Int) rfl fun _ _ => rfl
instance : GoFl Spot := ⟨fun G x => GoFl.fl (α := Int × Int × Int) G (x.Piece, x.At, x.Way), fun l x => GoFl.lev (α := Int × Int × Int) l (x.Piece, x.At, x.Way), GoFl.pos (α := Int × Int × Int)⟩
structure Step where
  Piece : Int
  Way : Int
instance : GoT Step := ⟨2, by decide, fun l x => GoT.encL l x.Piece ++ (GoT.encL l x.Way), fun x => by simp only [List.length_append, GoT.len]; rfl, fun x => by simp only [cleanL_append, GoT.clean]; rfl, fun x => by simp only [List.all_append, GoT.cell]; rfl⟩
instance : GoM Step := GoM.via (fun x => (x.Piece, x.Way) : Step → Int × Int) rfl fun _ _ => rfl
instance : GoFl Step := ⟨fun G x => GoFl.fl (α := Int × Int) G (x.Piece, x.Way), fun l x => GoFl.lev (α := Int × Int) l (x.Piece, x.Way), GoFl.pos (α := Int × Int)⟩
theorem foc_Step_Piece : Foc Step Int (fun x => x.Piece) (fun x y => { x with Piece := y }) 0 := Foc.via (α := Step) (f := (fun x => (x.Piece, x.Way) : Step → Int × Int)) (hz := rfl) (he := fun _ _ => rfl) (Foc.fst) fun _ _ => rfl
theorem foc_Step_Way : Foc Step Int (fun x => x.Way) (fun x y => { x with Way := y }) 1 := Foc.via (α := Step) (f := (fun x => (x.Piece, x.Way) : Step → Int × Int)) (hz := rfl) (he := fun _ _ => rfl) (Foc.snd) fun _ _ => rfl
structure Train where
  Front : Spot
  Long : Int
  Back : List Step
instance : GoT Train := ⟨5, by decide, fun l x => GoT.encL l x.Front ++ (GoT.encL l x.Long ++ (GoT.encL l x.Back)), fun x => by simp only [List.length_append, GoT.len]; rfl, fun x => by simp only [cleanL_append, GoT.clean]; rfl, fun x => by simp only [List.all_append, GoT.cell]; rfl⟩
instance : GoM Train := GoM.via (fun x => (x.Front, x.Long, x.Back) : Train → Spot × Int × (List Step)) rfl fun _ _ => rfl
theorem foc_Train_Back : Foc Train (List Step) (fun x => x.Back) (fun x y => { x with Back := y }) 4 := Foc.via (α := Train) (f := (fun x => (x.Front, x.Long, x.Back) : Train → Spot × Int × (List Step))) (hz := rfl) (he := fun _ _ => rfl) (Foc.comp Foc.snd (Foc.snd)) fun _ _ => rfl
theorem th_Train {H : Heap} {d n : Nat} {rs rs1 : List Res} {cs : List V} {x : Train} (h : ThV n H d rs cs (x.Front, x.Long, x.Back) rs1) : ThV n H d rs cs x rs1 := h
theorem ls_Train {H G : Heap} {rs : List Res} {S F : List Nat} {x : Train} {cs : List V} {j : Nat} (hO : Owns H G rs) (hj : rs[j]? = some (Tree S F x cs)) (lv n : Nat) (hn : Nat.ble (GoM.dep Train) n = true := by rfl) : ∃ M, lendV lv G (n + 1) (.agg cs) = some (.agg [.int .i64 x.Front.Piece, .int .i64 x.Front.At, .int .i64 x.Front.Way, .int .i64 x.Long, .lit lv x.Back.length ((flatL 0) x.Back)], M) := by
  have h := ld_trS hO hj lv n hn
  have e : GoT.encL lv x = [.int .i64 x.Front.Piece, .int .i64 x.Front.At, .int .i64 x.Front.Way, .int .i64 x.Long, .lit lv x.Back.length ((flatL 0) x.Back)] := by
    show ([.int .i64 x.Front.Piece, .int .i64 x.Front.At, .int .i64 x.Front.Way, .int .i64 x.Long, .lit lv x.Back.length (flatL lv x.Back)] : List V) = _
    simp only [flat_lv]
  rwa [e] at h
structure Part where
  Piece : Int
  From : Int
  To : Int
instance : GoT Part := ⟨3, by decide, fun l x => GoT.encL l x.Piece ++ (GoT.encL l x.From ++ (GoT.encL l x.To)), fun x => by simp only [List.length_append, GoT.len]; rfl, fun x => by simp only [cleanL_append, GoT.clean]; rfl, fun x => by simp only [List.all_append, GoT.cell]; rfl⟩
instance : GoM Part := GoM.via (fun x => (x.Piece, x.From, x.To) : Part → Int × Int × Int) rfl fun _ _ => rfl
instance : GoFl Part := ⟨fun G x => GoFl.fl (α := Int × Int × Int) G (x.Piece, x.From, x.To), fun l x => GoFl.lev (α := Int × Int × Int) l (x.Piece, x.From, x.To), GoFl.pos (α := Int × Int × Int)⟩
theorem foc_Part_Piece : Foc Part Int (fun x => x.Piece) (fun x y => { x with Piece := y }) 0 := Foc.via (α := Part) (f := (fun x => (x.Piece, x.From, x.To) : Part → Int × Int × Int)) (hz := rfl) (he := fun _ _ => rfl) (Foc.fst) fun _ _ => rfl
theorem foc_Part_From : Foc Part Int (fun x => x.From) (fun x y => { x with From := y }) 1 := Foc.via (α := Part) (f := (fun x => (x.Piece, x.From, x.To) : Part → Int × Int × Int)) (hz := rfl) (he := fun _ _ => rfl) (Foc.comp Foc.snd (Foc.fst)) fun _ _ => rfl
theorem foc_Part_To : Foc Part Int (fun x => x.To) (fun x y => { x with To := y }) 2 := Foc.via (α := Part) (f := (fun x => (x.Piece, x.From, x.To) : Part → Int × Int × Int)) (hz := rfl) (he := fun _ _ => rfl) (Foc.comp Foc.snd (Foc.snd)) fun _ _ => rfl
structure Fault where
  Code : Int
  At : Int
instance : GoT Fault := ⟨2, by decide, fun l x => GoT.encL l x.Code ++ (GoT.encL l x.At), fun x => by simp only [List.length_append, GoT.len]; rfl, fun x => by simp only [cleanL_append, GoT.clean]; rfl, fun x => by simp only [List.all_append, GoT.cell]; rfl⟩
instance : GoM Fault := GoM.via (fun x => (x.Code, x.At) : Fault → Int × Int) rfl fun _ _ => rfl
instance : GoFl Fault := ⟨fun G x => GoFl.fl (α := Int × Int) G (x.Code, x.At), fun l x => GoFl.lev (α := Int × Int) l (x.Code, x.At), GoFl.pos (α := Int × Int)⟩
theorem tZ121 : szOf Try.prog 121 = some 2 := by rfl
theorem tZ125 : szOf Try.prog 125 = some 5 := by rfl
theorem tA121 : aggT Try.prog 121 = some true := by rfl
theorem tF121_0 : fieldOff Try.prog 121 0 = some 0 := by rfl
theorem tA118 : aggT Try.prog 118 = some false := by rfl
theorem tS118 : strT Try.prog 118 = some false := by rfl
theorem tE118 : elemT Try.prog 118 = some 322 := by rfl
theorem tZ322 : szOf Try.prog 322 = some 4 := by rfl
theorem tA322 : aggT Try.prog 322 = some true := by rfl
theorem tF322_0 : fieldOff Try.prog 322 0 = some 0 := by rfl
theorem tA9 : aggT Try.prog 9 = some false := by rfl
theorem tS9 : strT Try.prog 9 = some true := by rfl
theorem tF121_1 : fieldOff Try.prog 121 1 = some 1 := by rfl
theorem tA119 : aggT Try.prog 119 = some false := by rfl
theorem tS119 : strT Try.prog 119 = some false := by rfl
theorem tE119 : elemT Try.prog 119 = some 326 := by rfl
theorem tZ326 : szOf Try.prog 326 = some 3 := by rfl
theorem tA326 : aggT Try.prog 326 = some true := by rfl
theorem tF326_1 : fieldOff Try.prog 326 1 = some 1 := by rfl
theorem tF326_2 : fieldOff Try.prog 326 2 = some 2 := by rfl
theorem tA324 : aggT Try.prog 324 = some false := by rfl
theorem tS324 : strT Try.prog 324 = some false := by rfl
theorem tA125 : aggT Try.prog 125 = some true := by rfl
theorem tF125_2 : fieldOff Try.prog 125 2 = some 4 := by rfl
theorem tA55 : aggT Try.prog 55 = some false := by rfl
theorem tS55 : strT Try.prog 55 = some false := by rfl
theorem tZ132 : szOf Try.prog 132 = some 2 := by rfl
theorem t0132 : zeroOf Try.prog 132 = some [(.tl 0 []), (.tl 0 [])] := by rfl
theorem tE129 : elemT Try.prog 129 = some 266 := by rfl
theorem tZ266 : szOf Try.prog 266 = some 4 := by rfl
theorem tB266 : bytesOf Try.prog 266 = some 40 := by rfl
theorem t0266 : zeroOf Try.prog 266 = some [.str ByteArray.empty, .int .i64 0, .int .i64 0, .int .i64 0] := by rfl
theorem tF266_0 : fieldOff Try.prog 266 0 = some 0 := by rfl
theorem tZ9 : szOf Try.prog 9 = some 1 := by rfl
theorem tF322_1 : fieldOff Try.prog 322 1 = some 1 := by rfl
theorem tA3 : aggT Try.prog 3 = some false := by rfl
theorem tF266_1 : fieldOff Try.prog 266 1 = some 1 := by rfl
theorem tZ3 : szOf Try.prog 3 = some 1 := by rfl
theorem tF322_2 : fieldOff Try.prog 322 2 = some 2 := by rfl
theorem tF266_2 : fieldOff Try.prog 266 2 = some 2 := by rfl
theorem tF322_3 : fieldOff Try.prog 322 3 = some 3 := by rfl
theorem tF266_3 : fieldOff Try.prog 266 3 = some 3 := by rfl
theorem tA266 : aggT Try.prog 266 = some true := by rfl
theorem tF132_0 : fieldOff Try.prog 132 0 = some 0 := by rfl
theorem tZ129 : szOf Try.prog 129 = some 1 := by rfl
theorem tE130 : elemT Try.prog 130 = some 332 := by rfl
theorem tZ332 : szOf Try.prog 332 = some 3 := by rfl
theorem tB332 : bytesOf Try.prog 332 = some 48 := by rfl
theorem t0332 : zeroOf Try.prog 332 = some [.int .i64 0, .str ByteArray.empty, (.tl 0 [])] := by rfl
theorem tF326_0 : fieldOff Try.prog 326 0 = some 0 := by rfl
theorem tF332_0 : fieldOff Try.prog 332 0 = some 0 := by rfl
theorem tF332_1 : fieldOff Try.prog 332 1 = some 1 := by rfl
theorem tE330 : elemT Try.prog 330 = some 260 := by rfl
theorem tZ260 : szOf Try.prog 260 = some 2 := by rfl
theorem tB260 : bytesOf Try.prog 260 = some 16 := by rfl
theorem t0260 : zeroOf Try.prog 260 = some [.int .i64 0, .int .i64 0] := by rfl
theorem tE324 : elemT Try.prog 324 = some 394 := by rfl
theorem tZ394 : szOf Try.prog 394 = some 2 := by rfl
theorem tA394 : aggT Try.prog 394 = some true := by rfl
theorem tF394_0 : fieldOff Try.prog 394 0 = some 0 := by rfl
theorem tF260_0 : fieldOff Try.prog 260 0 = some 0 := by rfl
theorem tF394_1 : fieldOff Try.prog 394 1 = some 1 := by rfl
theorem tF260_1 : fieldOff Try.prog 260 1 = some 1 := by rfl
theorem tA260 : aggT Try.prog 260 = some true := by rfl
theorem tF332_2 : fieldOff Try.prog 332 2 = some 2 := by rfl
theorem tZ330 : szOf Try.prog 330 = some 1 := by rfl
theorem tA332 : aggT Try.prog 332 = some true := by rfl
theorem tF132_1 : fieldOff Try.prog 132 1 = some 1 := by rfl
theorem tZ130 : szOf Try.prog 130 = some 1 := by rfl
theorem tA132 : aggT Try.prog 132 = some true := by rfl
theorem tZ136 : szOf Try.prog 136 = some 5 := by rfl
theorem t0136 : zeroOf Try.prog 136 = some [.int .i64 0, .int .i64 0, .int .i64 0, .int .i64 0, (.tl 0 [])] := by rfl
theorem tF125_0 : fieldOff Try.prog 125 0 = some 0 := by rfl
theorem tA123 : aggT Try.prog 123 = some true := by rfl
theorem tZ123 : szOf Try.prog 123 = some 3 := by rfl
theorem tZ134 : szOf Try.prog 134 = some 3 := by rfl
theorem t0134 : zeroOf Try.prog 134 = some [.int .i64 0, .int .i64 0, .int .i64 0] := by rfl
theorem tF123_0 : fieldOff Try.prog 123 0 = some 0 := by rfl
theorem tF134_0 : fieldOff Try.prog 134 0 = some 0 := by rfl
theorem tF123_1 : fieldOff Try.prog 123 1 = some 1 := by rfl
theorem tF134_1 : fieldOff Try.prog 134 1 = some 1 := by rfl
theorem tF123_2 : fieldOff Try.prog 123 2 = some 2 := by rfl
theorem tF134_2 : fieldOff Try.prog 134 2 = some 2 := by rfl
theorem tA134 : aggT Try.prog 134 = some true := by rfl
theorem tF136_0 : fieldOff Try.prog 136 0 = some 0 := by rfl
theorem tF125_1 : fieldOff Try.prog 125 1 = some 3 := by rfl
theorem tF136_1 : fieldOff Try.prog 136 1 = some 3 := by rfl
theorem tE63 : elemT Try.prog 63 = some 258 := by rfl
theorem tZ258 : szOf Try.prog 258 = some 2 := by rfl
theorem tB258 : bytesOf Try.prog 258 = some 16 := by rfl
theorem t0258 : zeroOf Try.prog 258 = some [.int .i64 0, .int .i64 0] := by rfl
theorem tE55 : elemT Try.prog 55 = some 289 := by rfl
theorem tZ289 : szOf Try.prog 289 = some 2 := by rfl
theorem tA289 : aggT Try.prog 289 = some true := by rfl
theorem tF289_0 : fieldOff Try.prog 289 0 = some 0 := by rfl
theorem tF258_0 : fieldOff Try.prog 258 0 = some 0 := by rfl
theorem tF289_1 : fieldOff Try.prog 289 1 = some 1 := by rfl
theorem tF258_1 : fieldOff Try.prog 258 1 = some 1 := by rfl
theorem tA258 : aggT Try.prog 258 = some true := by rfl
theorem tF136_2 : fieldOff Try.prog 136 2 = some 4 := by rfl
theorem tZ63 : szOf Try.prog 63 = some 1 := by rfl
theorem tA136 : aggT Try.prog 136 = some true := by rfl
theorem tZ77 : szOf Try.prog 77 = some 2 := by rfl
theorem t077 : zeroOf Try.prog 77 = some [.int .i64 0, .int .i64 0] := by rfl
theorem tA129 : aggT Try.prog 129 = some false := by rfl
theorem tS129 : strT Try.prog 129 = some false := by rfl
theorem tA130 : aggT Try.prog 130 = some false := by rfl
theorem tS130 : strT Try.prog 130 = some false := by rfl
theorem tP77 : placesK Try.prog 77 = some [(0, 1), (1, 1)] := by rfl
theorem tA77 : aggT Try.prog 77 = some true := by rfl
theorem tA330 : aggT Try.prog 330 = some false := by rfl
theorem tS330 : strT Try.prog 330 = some false := by rfl
theorem tP260 : placesK Try.prog 260 = some [(0, 1), (1, 1)] := by rfl
theorem tG260 : flatT Try.prog 260 = some [.i, .i] := by decide +kernel
theorem tF77_0 : fieldOff Try.prog 77 0 = some 0 := by rfl
theorem tA63 : aggT Try.prog 63 = some false := by rfl
theorem tS63 : strT Try.prog 63 = some false := by rfl
theorem tP258 : placesK Try.prog 258 = some [(0, 1), (1, 1)] := by rfl
theorem tE26 : elemT Try.prog 26 = some 3 := by rfl
theorem t03 : zeroOf Try.prog 3 = some [.int .i64 0] := by rfl
theorem tZ271 : szOf Try.prog 271 = some 3 := by rfl
theorem t0271 : zeroOf Try.prog 271 = some [.int .i64 0, .int .i64 0, .int .i64 0] := by rfl
theorem tP271 : placesK Try.prog 271 = some [(0, 1), (1, 1), (2, 1)] := by rfl
theorem tA271 : aggT Try.prog 271 = some true := by rfl
theorem tE65 : elemT Try.prog 65 = some 271 := by rfl
theorem tB271 : bytesOf Try.prog 271 = some 24 := by rfl
theorem tM377 : mapK Try.prog 377 = some (.one .s, 4) := by decide +kernel
theorem tY4 : zero1 Try.prog 4 = some (GoP.pv (false : Bool)) := by rfl
theorem tM379 : mapK Try.prog 379 = some (.many [.i, .i], 3) := by decide +kernel
theorem tY3 : zero1 Try.prog 3 = some (GoP.pv (0 : Int)) := by rfl
theorem tG77 : flatT Try.prog 77 = some [.i, .i] := by decide +kernel
theorem tS65 : strT Try.prog 65 = some false := by rfl
theorem tF271_1 : fieldOff Try.prog 271 1 = some 1 := by rfl
theorem tF271_2 : fieldOff Try.prog 271 2 = some 2 := by rfl
theorem tF271_0 : fieldOff Try.prog 271 0 = some 0 := by rfl
theorem tE383 : elemT Try.prog 383 = some 5 := by rfl
theorem tZ5 : szOf Try.prog 5 = some 1 := by rfl
theorem t05 : zeroOf Try.prog 5 = some [.int .u8 0] := by rfl
/-- laws.szPiece -/
def f282 (aA0 : Piece) (aLeft1 : Int) : Option Int :=
  (bif decide ((w64 (aLeft1 - (aA0.Name.size : Int))) < (0:Int)) then some (-1:Int) else some (w64 (aLeft1 - (aA0.Name.size : Int))))
theorem f282_run {aA0 : Piece} {aLeft1 : Int} {r : Int} {H : Heap} {lk : Lk} (hk : f282 aA0 aLeft1 = some r) (hlk : 0 < lk.length := by simp) : runL Try.prog hh 282 [.agg [.str aA0.Name, .int .i64 aA0.Len, .int .i64 aA0.Speed, .int .i64 aA0.Brake], .int .i64 aLeft1] H lk = some (.int .i64 r, H) := by
  refine run_start Try.func282 rfl Try.ntmps282 Try.results282 rfl rfl fun hO => ?_
  unfold f282 at hk
  refine wpL_sq (wpL_rg ?_)
  refine pBox (cs := [_, _, _, _]) hO tZ322 (fun b1 G hO => ?_)
  refine pA (.int _ _) ?_
  refine pE (gn (wpL_sq (wpL_rg ?_)))
  refine pM (.int _ _) ?_
  refine pF tF322_0 ?_
  refine pLo hO 0 (.str _) tA9 ?_
  refine pLen tS9 ?_
  refine pBi ?_
  refine pA (.int _ _) ?_
  refine pE (gn (wpL_sq (wpL_sq (wpL_rg ?_))))
  refine pM (.int _ _) ?_
  refine pBi ?_
  refine pE (gn ?_)
  refine wpL_cd (b := decide ((w64 (aLeft1 - (aA0.Name.size : Int))) < (0:Int))) (fun hb => ?_) (fun hb => ?_)
  · replace hk := ct hb hk
    refine wpL_sq (wpL_rg ?_)
    refine pA (.int _ _) ?_
    refine pE (gn (wpL_rt (gr ?_)))
    replace hk := Option.some.inj hk; subst hk; exact fin0 hO
  · replace hk := cf hb hk
    refine wpL_sk (gn (wpL_sq (wpL_rg ?_)))
    refine pM (.int _ _) ?_
    refine pA (.int _ _) ?_
    refine pE (gn (wpL_rt ?_))
    replace hk := Option.some.inj hk; subst hk; exact fin0 hO
/-- laws.szPieceS -/
def f193_L1 (aA0 : List Piece) : (Int × Int) → Option ((Int × Int) ⊕ Int) := fun s =>
  (bif decide (s.2 < (aA0.length : Int)) then ((getI aA0 s.2).bind fun c3 => ((f282 c3 s.1).bind fun v4 => (bif decide (v4 < (0:Int)) then ((some (-1:Int)).map Sum.inr) else some (.inl (v4, w64 (s.2 + (1:Int))))))) else ((some s.1).map Sum.inr))
def f193 (aA0 : List Piece) (aLeft1 : Int) : Option Int :=
  (bif decide ((w64 (aLeft1 - (aA0.length : Int))) < (0:Int)) then some (-1:Int) else (loopO (f193_L1 aA0) (w64 (aLeft1 - (aA0.length : Int)), (0:Int))))
theorem f193_run {aA0 : List Piece} {aLeft1 : Int} {r : Int} {l1 : Nat} {H : Heap} {lk : Lk} (hk : f193 aA0 aLeft1 = some r) (hlk : 0 < lk.length := by simp) : runL Try.prog hh 193 [.lit l1 aA0.length ((flatL 0) aA0), .int .i64 aLeft1] H lk = some (.int .i64 r, H) := by
  refine run_start Try.func193 rfl Try.ntmps193 Try.results193 rfl rfl fun hO => ?_
  unfold f193 at hk
  refine wpL_sq (wpL_rg ?_)
  refine pA (.int _ _) ?_
  refine pE (gn (wpL_sq (wpL_rg ?_)))
  refine pM (.int _ _) ?_
  refine pM (.lit _ _ _) ?_
  refine pLen tS118 ?_
  refine pBi ?_
  refine pA (.int _ _) ?_
  refine pE (gn (wpL_sq (wpL_sq (wpL_rg ?_))))
  refine pM (.int _ _) ?_
  refine pBi ?_
  refine pE (gn ?_)
  refine wpL_cd (b := decide ((w64 (aLeft1 - (aA0.length : Int))) < (0:Int))) (fun hb => ?_) (fun hb => ?_)
  · replace hk := ct hb hk
    refine wpL_sq (wpL_rg ?_)
    refine pA (.int _ _) ?_
    refine pE (gn (wpL_rt (gr ?_)))
    replace hk := Option.some.inj hk; subst hk; exact fin0 hO
  · replace hk := cf hb hk
    refine wpL_sk (gn (wpL_sq (wpL_sq (wpL_rg ?_))))
    refine pA (.int _ _) ?_
    refine pE (gn (wpL_bl ?_))
    refine wpL_loopO (F := f193_L1 aA0) (fun s S' => ∃ (J : Nat → V) (G : Heap), Owns H G [] ∧ S' = ⟨hav [(0, .lit l1 aA0.length ((flatL 0) aA0)), (1, .int .i64 s.1), (5, .int .i64 s.2)] J, G⟩) hk ⟨_, _, hO, St.hav _ ⟨rfl, rfl, rfl, trivial⟩⟩ ?_
    rintro ⟨x1, x2⟩ _ y1 ⟨J, G, hO, rfl⟩ hk hx1
    refine wpL_sq (wpL_sq (wpL_rg ?_))
    refine pM (.int _ _) ?_
    refine pM (.lit _ _ _) ?_
    refine pLen tS118 ?_
    refine pBi ?_
    refine pE (gn ?_)
    refine wpL_cd (b := decide (x2 < (aA0.length : Int))) (fun hb => ?_) (fun hb => ?_)
    · replace hk := ct hb hk
      refine wpL_sk (gn (wpL_sq (wpL_bl (wpL_sq (wpL_rg ?_)))))
      refine pM (.lit _ _ _) ?_
      refine pM (.int _ _) ?_
      obtain ⟨c3, hc3, hk⟩ := bs hk
      refine pX hc3 tE118 tZ322 ?_
      refine pLp (.agg [_, _, _, _]) (rd2 (lm := 0) (off := 0) hc3 tA322 tZ322) ?_
      refine pM (.int _ _) ?_
      obtain ⟨v4, hv4, hk⟩ := bs hk
      refine pCall (fun _ => f282_run hv4) ?_
      refine pA (.int _ _) ?_
      refine pE (gn (wpL_sq (wpL_rg ?_)))
      refine pM (.int _ _) ?_
      refine pBi ?_
      refine pE (gn ?_)
      refine wpL_cd (b := decide (v4 < (0:Int))) (fun hb => ?_) (fun hb => ?_)
      · replace hk := ct hb hk
        refine wpL_sq (wpL_rg ?_)
        refine pA (.int _ _) ?_
        refine pE (gn (wpL_rt (br (gr (gr (br (gr ?_)))))))
        replace hk := lx hx1 hk
        replace hk := Option.some.inj hk; subst hk; exact fin0 hO
      · replace hk := cf hb hk
        refine wpL_sk (bn (gn (wpL_rg ?_)))
        refine pM (.int _ _) ?_
        refine pBi ?_
        refine pA (.int _ _) ?_
        refine pE (gn ?_)
        cases hk; exact ⟨_, rfl, _, _, hO, St.hav _ ⟨rfl, rfl, rfl, trivial⟩⟩
    · replace hk := cf hb hk
      refine wpL_ex (ge (ge (be (gn ?_))))
      replace hk := lx hx1 hk
      refine wpL_sq (wpL_rg ?_)
      refine pM (.int _ _) ?_
      refine pA (.int _ _) ?_
      refine pE (gn (wpL_rt ?_))
      replace hk := Option.some.inj hk; subst hk; exact fin0 hO
/-- laws.szEndS -/
def f328 (aA0 : List End) (aLeft1 : Int) : Option Int :=
  (bif decide ((w64 (aLeft1 - (aA0.length : Int))) < (0:Int)) then some (-1:Int) else some (w64 (aLeft1 - (aA0.length : Int))))
theorem f328_run {aA0 : List End} {aLeft1 : Int} {r : Int} {l1 : Nat} {H : Heap} {lk : Lk} (hk : f328 aA0 aLeft1 = some r) (hlk : 0 < lk.length := by simp) : runL Try.prog hh 328 [.lit l1 aA0.length ((flatL 0) aA0), .int .i64 aLeft1] H lk = some (.int .i64 r, H) := by
  refine run_start Try.func328 rfl Try.ntmps328 Try.results328 rfl rfl fun hO => ?_
  unfold f328 at hk
  refine wpL_sq (wpL_rg ?_)
  refine pA (.int _ _) ?_
  refine pE (gn (wpL_sq (wpL_rg ?_)))
  refine pM (.int _ _) ?_
  refine pM (.lit _ _ _) ?_
  refine pLen tS324 ?_
  refine pBi ?_
  refine pA (.int _ _) ?_
  refine pE (gn (wpL_sq (wpL_sq (wpL_rg ?_))))
  refine pM (.int _ _) ?_
  refine pBi ?_
  refine pE (gn ?_)
  refine wpL_cd (b := decide ((w64 (aLeft1 - (aA0.length : Int))) < (0:Int))) (fun hb => ?_) (fun hb => ?_)
  · replace hk := ct hb hk
    refine wpL_sq (wpL_rg ?_)
    refine pA (.int _ _) ?_
    refine pE (gn (wpL_rt (gr ?_)))
    replace hk := Option.some.inj hk; subst hk; exact fin0 hO
  · replace hk := cf hb hk
    refine wpL_sk (gn (wpL_sq (wpL_rg ?_)))
    refine pM (.int _ _) ?_
    refine pA (.int _ _) ?_
    refine pE (gn (wpL_rt ?_))
    replace hk := Option.some.inj hk; subst hk; exact fin0 hO
/-- laws.szJoint -/
def f283 (aA0 : Joint) (aLeft1 : Int) : Option Int :=
  (bif decide ((w64 (aLeft1 - (aA0.Name.size : Int))) < (0:Int)) then some (-1:Int) else ((f328 aA0.Ends (w64 (aLeft1 - (aA0.Name.size : Int)))).bind fun v2 => (bif decide (v2 < (0:Int)) then some (-1:Int) else some v2)))
theorem f283_run {aA0 : Joint} {aLeft1 : Int} {r : Int} {l1 : Nat} {H : Heap} {lk : Lk} (hk : f283 aA0 aLeft1 = some r) (hlk : 0 < lk.length := by simp) : runL Try.prog hh 283 [.agg [.int .i64 aA0.Kind, .str aA0.Name, .lit l1 aA0.Ends.length ((flatL 0) aA0.Ends)], .int .i64 aLeft1] H lk = some (.int .i64 r, H) := by
  refine run_start Try.func283 rfl Try.ntmps283 Try.results283 rfl rfl fun hO => ?_
  unfold f283 at hk
  refine wpL_sq (wpL_rg ?_)
  refine pBox (cs := [_, _, _]) hO tZ326 (fun b1 G hO => ?_)
  refine pA (.int _ _) ?_
  refine pE (gn (wpL_sq (wpL_rg ?_)))
  refine pM (.int _ _) ?_
  refine pF tF326_1 ?_
  refine pLo hO 0 (.str _) tA9 ?_
  refine pLen tS9 ?_
  refine pBi ?_
  refine pA (.int _ _) ?_
  refine pE (gn (wpL_sq (wpL_sq (wpL_rg ?_))))
  refine pM (.int _ _) ?_
  refine pBi ?_
  refine pE (gn ?_)
  refine wpL_cd (b := decide ((w64 (aLeft1 - (aA0.Name.size : Int))) < (0:Int))) (fun hb => ?_) (fun hb => ?_)
  · replace hk := ct hb hk
    refine wpL_sq (wpL_rg ?_)
    refine pA (.int _ _) ?_
    refine pE (gn (wpL_rt (gr ?_)))
    replace hk := Option.some.inj hk; subst hk; exact fin0 hO
  · replace hk := cf hb hk
    refine wpL_sk (gn (wpL_sq (wpL_rg ?_)))
    refine pF tF326_2 ?_
    refine pLo hO 0 (.lit _ _ _) tA324 ?_
    refine pM (.int _ _) ?_
    obtain ⟨v2, hv2, hk⟩ := bs hk
    refine pCall (fun _ => f328_run hv2) ?_
    refine pA (.int _ _) ?_
    refine pE (gn (wpL_sq (wpL_sq (wpL_rg ?_))))
    refine pM (.int _ _) ?_
    refine pBi ?_
    refine pE (gn ?_)
    refine wpL_cd (b := decide (v2 < (0:Int))) (fun hb => ?_) (fun hb => ?_)
    · replace hk := ct hb hk
      refine wpL_sq (wpL_rg ?_)
      refine pA (.int _ _) ?_
      refine pE (gn (wpL_rt (gr ?_)))
      replace hk := Option.some.inj hk; subst hk; exact fin0 hO
    · replace hk := cf hb hk
      refine wpL_sk (gn (wpL_sq (wpL_rg ?_)))
      refine pM (.int _ _) ?_
      refine pA (.int _ _) ?_
      refine pE (gn (wpL_rt ?_))
      replace hk := Option.some.inj hk; subst hk; exact fin0 hO
/-- laws.szJointS -/
def f194_L1 (aA0 : List Joint) : (Int × Int) → Option ((Int × Int) ⊕ Int) := fun s =>
  (bif decide (s.2 < (aA0.length : Int)) then ((getI aA0 s.2).bind fun c3 => ((f283 c3 s.1).bind fun v4 => (bif decide (v4 < (0:Int)) then ((some (-1:Int)).map Sum.inr) else some (.inl (v4, w64 (s.2 + (1:Int))))))) else ((some s.1).map Sum.inr))
def f194 (aA0 : List Joint) (aLeft1 : Int) : Option Int :=
  (bif decide ((w64 (aLeft1 - (aA0.length : Int))) < (0:Int)) then some (-1:Int) else (loopO (f194_L1 aA0) (w64 (aLeft1 - (aA0.length : Int)), (0:Int))))
theorem f194_run {aA0 : List Joint} {aLeft1 : Int} {r : Int} {l1 m2 : Nat} {H : Heap} {lk : Lk} (hk : f194 aA0 aLeft1 = some r) (hlk : 0 < lk.length := by simp) : runL Try.prog hh 194 [.lit l1 aA0.length (flatL m2 aA0), .int .i64 aLeft1] H lk = some (.int .i64 r, H) := by
  refine run_start Try.func194 rfl Try.ntmps194 Try.results194 rfl rfl fun hO => ?_
  unfold f194 at hk
  refine wpL_sq (wpL_rg ?_)
  refine pA (.int _ _) ?_
  refine pE (gn (wpL_sq (wpL_rg ?_)))
  refine pM (.int _ _) ?_
  refine pM (.lit _ _ _) ?_
  refine pLen tS119 ?_
  refine pBi ?_
  refine pA (.int _ _) ?_
  refine pE (gn (wpL_sq (wpL_sq (wpL_rg ?_))))
  refine pM (.int _ _) ?_
  refine pBi ?_
  refine pE (gn ?_)
  refine wpL_cd (b := decide ((w64 (aLeft1 - (aA0.length : Int))) < (0:Int))) (fun hb => ?_) (fun hb => ?_)
  · replace hk := ct hb hk
    refine wpL_sq (wpL_rg ?_)
    refine pA (.int _ _) ?_
    refine pE (gn (wpL_rt (gr ?_)))
    replace hk := Option.some.inj hk; subst hk; exact fin0 hO
  · replace hk := cf hb hk
    refine wpL_sk (gn (wpL_sq (wpL_sq (wpL_rg ?_))))
    refine pA (.int _ _) ?_
    refine pE (gn (wpL_bl ?_))
    refine wpL_loopO (F := f194_L1 aA0) (fun s S' => ∃ (J : Nat → V) (G : Heap), Owns H G [] ∧ S' = ⟨hav [(0, .lit l1 aA0.length (flatL m2 aA0)), (1, .int .i64 s.1), (5, .int .i64 s.2)] J, G⟩) hk ⟨_, _, hO, St.hav _ ⟨rfl, rfl, rfl, trivial⟩⟩ ?_
    rintro ⟨x1, x2⟩ _ y1 ⟨J, G, hO, rfl⟩ hk hx1
    refine wpL_sq (wpL_sq (wpL_rg ?_))
    refine pM (.int _ _) ?_
    refine pM (.lit _ _ _) ?_
    refine pLen tS119 ?_
    refine pBi ?_
    refine pE (gn ?_)
    refine wpL_cd (b := decide (x2 < (aA0.length : Int))) (fun hb => ?_) (fun hb => ?_)
    · replace hk := ct hb hk
      refine wpL_sk (gn (wpL_sq (wpL_bl (wpL_sq (wpL_rg ?_)))))
      refine pM (.lit _ _ _) ?_
      refine pM (.int _ _) ?_
      obtain ⟨c3, hc3, hk⟩ := bs hk
      refine pX hc3 tE119 tZ326 ?_
      refine pLp (.agg [_, _, _]) (rd2 (lm := m2) (off := 0) hc3 tA326 tZ326) ?_
      refine pM (.int _ _) ?_
      obtain ⟨v4, hv4, hk⟩ := bs hk
      refine pCall (fun _ => f283_run hv4) ?_
      refine pA (.int _ _) ?_
      refine pE (gn (wpL_sq (wpL_rg ?_)))
      refine pM (.int _ _) ?_
      refine pBi ?_
      refine pE (gn ?_)
      refine wpL_cd (b := decide (v4 < (0:Int))) (fun hb => ?_) (fun hb => ?_)
      · replace hk := ct hb hk
        refine wpL_sq (wpL_rg ?_)
        refine pA (.int _ _) ?_
        refine pE (gn (wpL_rt (br (gr (gr (br (gr ?_)))))))
        replace hk := lx hx1 hk
        replace hk := Option.some.inj hk; subst hk; exact fin0 hO
      · replace hk := cf hb hk
        refine wpL_sk (bn (gn (wpL_rg ?_)))
        refine pM (.int _ _) ?_
        refine pBi ?_
        refine pA (.int _ _) ?_
        refine pE (gn ?_)
        cases hk; exact ⟨_, rfl, _, _, hO, St.hav _ ⟨rfl, rfl, rfl, trivial⟩⟩
    · replace hk := cf hb hk
      refine wpL_ex (ge (ge (be (gn ?_))))
      replace hk := lx hx1 hk
      refine wpL_sq (wpL_rg ?_)
      refine pM (.int _ _) ?_
      refine pA (.int _ _) ?_
      refine pE (gn (wpL_rt ?_))
      replace hk := Option.some.inj hk; subst hk; exact fin0 hO
/-- laws.szNet -/
def f77 (aA0 : Net) (aLeft1 : Int) : Option Int :=
  ((f193 aA0.Pieces aLeft1).bind fun v2 => (bif decide (v2 < (0:Int)) then some (-1:Int) else ((f194 aA0.Joints v2).bind fun v3 => (bif decide (v3 < (0:Int)) then some (-1:Int) else some v3))))
theorem f77_run {aA0 : Net} {aLeft1 : Int} {r : Int} {l1 l2 m3 : Nat} {H : Heap} {lk : Lk} (hk : f77 aA0 aLeft1 = some r) (hlk : 0 < lk.length := by simp) : runL Try.prog hh 77 [.agg [.lit l1 aA0.Pieces.length ((flatL 0) aA0.Pieces), .lit l2 aA0.Joints.length (flatL m3 aA0.Joints)], .int .i64 aLeft1] H lk = some (.int .i64 r, H) := by
  refine run_start Try.func77 rfl Try.ntmps77 Try.results77 rfl rfl fun hO => ?_
  unfold f77 at hk
  refine wpL_sq (wpL_rg ?_)
  refine pBox (cs := [_, _]) hO tZ121 (fun b1 G hO => ?_)
  refine pA (.int _ _) ?_
  refine pE (gn (wpL_sq (wpL_rg ?_)))
  refine pF tF121_0 ?_
  refine pLo hO 0 (.lit _ _ _) tA118 ?_
  refine pM (.int _ _) ?_
  obtain ⟨v2, hv2, hk⟩ := bs hk
  refine pCall (fun _ => f193_run hv2) ?_
  refine pA (.int _ _) ?_
  refine pE (gn (wpL_sq (wpL_sq (wpL_rg ?_))))
  refine pM (.int _ _) ?_
  refine pBi ?_
  refine pE (gn ?_)
  refine wpL_cd (b := decide (v2 < (0:Int))) (fun hb => ?_) (fun hb => ?_)
  · replace hk := ct hb hk
    refine wpL_sq (wpL_rg ?_)
    refine pA (.int _ _) ?_
    refine pE (gn (wpL_rt (gr ?_)))
    replace hk := Option.some.inj hk; subst hk; exact fin0 hO
  · replace hk := cf hb hk
    refine wpL_sk (gn (wpL_sq (wpL_rg ?_)))
    refine pF tF121_1 ?_
    refine pLo hO 0 (.lit _ _ _) tA119 ?_
    refine pM (.int _ _) ?_
    obtain ⟨v3, hv3, hk⟩ := bs hk
    refine pCall (fun _ => f194_run hv3) ?_
    refine pA (.int _ _) ?_
    refine pE (gn (wpL_sq (wpL_sq (wpL_rg ?_))))
    refine pM (.int _ _) ?_
    refine pBi ?_
    refine pE (gn ?_)
    refine wpL_cd (b := decide (v3 < (0:Int))) (fun hb => ?_) (fun hb => ?_)
    · replace hk := ct hb hk
      refine wpL_sq (wpL_rg ?_)
      refine pA (.int _ _) ?_
      refine pE (gn (wpL_rt (gr ?_)))
      replace hk := Option.some.inj hk; subst hk; exact fin0 hO
    · replace hk := cf hb hk
      refine wpL_sk (gn (wpL_sq (wpL_rg ?_)))
      refine pM (.int _ _) ?_
      refine pA (.int _ _) ?_
      refine pE (gn (wpL_rt ?_))
      replace hk := Option.some.inj hk; subst hk; exact fin0 hO
/-- laws.szStepS -/
def f150 (aA0 : List Step) (aLeft1 : Int) : Option Int :=
  (bif decide ((w64 (aLeft1 - (aA0.length : Int))) < (0:Int)) then some (-1:Int) else some (w64 (aLeft1 - (aA0.length : Int))))
theorem f150_run {aA0 : List Step} {aLeft1 : Int} {r : Int} {l1 : Nat} {H : Heap} {lk : Lk} (hk : f150 aA0 aLeft1 = some r) (hlk : 0 < lk.length := by simp) : runL Try.prog hh 150 [.lit l1 aA0.length ((flatL 0) aA0), .int .i64 aLeft1] H lk = some (.int .i64 r, H) := by
  refine run_start Try.func150 rfl Try.ntmps150 Try.results150 rfl rfl fun hO => ?_
  unfold f150 at hk
  refine wpL_sq (wpL_rg ?_)
  refine pA (.int _ _) ?_
  refine pE (gn (wpL_sq (wpL_rg ?_)))
  refine pM (.int _ _) ?_
  refine pM (.lit _ _ _) ?_
  refine pLen tS55 ?_
  refine pBi ?_
  refine pA (.int _ _) ?_
  refine pE (gn (wpL_sq (wpL_sq (wpL_rg ?_))))
  refine pM (.int _ _) ?_
  refine pBi ?_
  refine pE (gn ?_)
  refine wpL_cd (b := decide ((w64 (aLeft1 - (aA0.length : Int))) < (0:Int))) (fun hb => ?_) (fun hb => ?_)
  · replace hk := ct hb hk
    refine wpL_sq (wpL_rg ?_)
    refine pA (.int _ _) ?_
    refine pE (gn (wpL_rt (gr ?_)))
    replace hk := Option.some.inj hk; subst hk; exact fin0 hO
  · replace hk := cf hb hk
    refine wpL_sk (gn (wpL_sq (wpL_rg ?_)))
    refine pM (.int _ _) ?_
    refine pA (.int _ _) ?_
    refine pE (gn (wpL_rt ?_))
    replace hk := Option.some.inj hk; subst hk; exact fin0 hO
/-- laws.szTrain -/
def f78 (aA0 : Train) (aLeft1 : Int) : Option Int :=
  ((f150 aA0.Back aLeft1).bind fun v2 => (bif decide (v2 < (0:Int)) then some (-1:Int) else some v2))
theorem f78_run {aA0 : Train} {aLeft1 : Int} {r : Int} {l1 : Nat} {H : Heap} {lk : Lk} (hk : f78 aA0 aLeft1 = some r) (hlk : 0 < lk.length := by simp) : runL Try.prog hh 78 [.agg [.int .i64 aA0.Front.Piece, .int .i64 aA0.Front.At, .int .i64 aA0.Front.Way, .int .i64 aA0.Long, .lit l1 aA0.Back.length ((flatL 0) aA0.Back)], .int .i64 aLeft1] H lk = some (.int .i64 r, H) := by
  refine run_start Try.func78 rfl Try.ntmps78 Try.results78 rfl rfl fun hO => ?_
  unfold f78 at hk
  refine wpL_sq (wpL_rg ?_)
  refine pBox (cs := [_, _, _, _, _]) hO tZ125 (fun b1 G hO => ?_)
  refine pA (.int _ _) ?_
  refine pE (gn (wpL_sq (wpL_rg ?_)))
  refine pF tF125_2 ?_
  refine pLo hO 0 (.lit _ _ _) tA55 ?_
  refine pM (.int _ _) ?_
  obtain ⟨v2, hv2, hk⟩ := bs hk
  refine pCall (fun _ => f150_run hv2) ?_
  refine pA (.int _ _) ?_
  refine pE (gn (wpL_sq (wpL_sq (wpL_rg ?_))))
  refine pM (.int _ _) ?_
  refine pBi ?_
  refine pE (gn ?_)
  refine wpL_cd (b := decide (v2 < (0:Int))) (fun hb => ?_) (fun hb => ?_)
  · replace hk := ct hb hk
    refine wpL_sq (wpL_rg ?_)
    refine pA (.int _ _) ?_
    refine pE (gn (wpL_rt (gr ?_)))
    replace hk := Option.some.inj hk; subst hk; exact fin0 hO
  · replace hk := cf hb hk
    refine wpL_sk (gn (wpL_sq (wpL_rg ?_)))
    refine pM (.int _ _) ?_
    refine pA (.int _ _) ?_
    refine pE (gn (wpL_rt ?_))
    replace hk := Option.some.inj hk; subst hk; exact fin0 hO
/-- laws.toPiece -/
def f286 (aA0 : Piece) : Option Piece :=
  some aA0
theorem f286_run {aA0 : Piece} {r : Piece} {H : Heap} {lk : Lk} (hk : f286 aA0 = some r) (hlk : 0 < lk.length := by simp) : runL Try.prog hh 286 [.agg [.str aA0.Name, .int .i64 aA0.Len, .int .i64 aA0.Speed, .int .i64 aA0.Brake]] H lk = some (.agg [.str r.Name, .int .i64 r.Len, .int .i64 r.Speed, .int .i64 r.Brake], H) := by
  refine run_start Try.func286 rfl Try.ntmps286 Try.results286 rfl rfl fun hO => ?_
  unfold f286 at hk
  refine wpL_sq (wpL_rg ?_)
  refine pBox (cs := [_, _, _, _]) hO tZ322 (fun b1 G hO => ?_)
  refine pNew hO tZ266 t0266 (fun b2 G hO => ?_)
  refine pE (gn (wpL_sq (wpL_rg ?_)))
  refine pNew hO tZ266 t0266 (fun b3 G hO => ?_)
  refine pE (gn (wpL_sq (wpL_rg ?_)))
  refine pF tF322_0 ?_
  refine pLo hO 2 (.str _) tA9 ?_
  refine pF tF266_0 ?_
  refine pSt (xs := [_]) hO 0 tZ9 rfl (fun G hO => ?_)
  refine pE (gn (wpL_sq (wpL_rg ?_)))
  refine pF tF322_1 ?_
  refine pLo hO 2 (.int _ _) tA3 ?_
  refine pF tF266_1 ?_
  refine pSt (xs := [_]) hO 0 tZ3 rfl (fun G hO => ?_)
  refine pE (gn (wpL_sq (wpL_rg ?_)))
  refine pF tF322_2 ?_
  refine pLo hO 2 (.int _ _) tA3 ?_
  refine pF tF266_2 ?_
  refine pSt (xs := [_]) hO 0 tZ3 rfl (fun G hO => ?_)
  refine pE (gn (wpL_sq (wpL_rg ?_)))
  refine pF tF322_3 ?_
  refine pLo hO 2 (.int _ _) tA3 ?_
  refine pF tF266_3 ?_
  refine pSt (xs := [_]) hO 0 tZ3 rfl (fun G hO => ?_)
  refine pE (gn (wpL_sq (wpL_rg ?_)))
  refine pLs hO 0 [_, _, _, _] tA266 tZ266 ?_
  refine pSt (xs := [_, _, _, _]) hO 1 tZ266 rfl (fun G hO => ?_)
  refine pE (gn (wpL_rt ?_))
  replace hk := Option.some.inj hk; subst hk; exact finZ hO (fz_agg (n := 2) (fz_c (fz_str _) (fz_c (fz_int _ _) (fz_c (fz_int _ _) (fz_c (fz_int _ _) (fz_n)))))) (resS hO 1 [_, _, _, _] tA266 tZ266 resN)
/-- laws.toPieceS -/
def f197_L1 (aA0 : List Piece) : ((List Piece) × Int) → Option (((List Piece) × Int) ⊕ (List Piece)) := fun s =>
  (bif decide (s.2 < (aA0.length : Int)) then ((getI aA0 s.2).bind fun c5 => ((f286 c5).bind fun v6 => ((getI s.1 s.2).bind fun c7 => some (.inl (s.1.set s.2.toNat v6, w64 (s.2 + (1:Int))))))) else ((some s.1).map Sum.inr))
def f197 (aA0 : List Piece) : Option (List Piece) :=
  ((makeB 40 (aA0.length : Int)).bind fun m1 => (loopO (f197_L1 aA0) (List.replicate m1 (⟨ByteArray.empty, 0, 0, 0⟩ : Piece), (0:Int))))
theorem f197_run {aA0 : List Piece} {r : (List Piece)} {l1 : Nat} {H : Heap} {lk : Lk} (hk : f197 aA0 = some r) (hlk : 0 < lk.length := by simp) : ∃ v H1, runL Try.prog hh 197 [.lit l1 aA0.length ((flatL 0) aA0)] H lk = some (v, H1) ∧ FreshL H r v H1 := by
  refine run_startR Try.func197 rfl Try.ntmps197 Try.results197 rfl rfl ?_
  have hO := Owns.nil H
  unfold f197 at hk
  refine wpL_sq (wpL_rg ?_)
  refine pA (.tl 0 []) ?_
  refine pE (gn (wpL_sq (wpL_rg ?_)))
  refine pM (.lit _ _ _) ?_
  refine pLen tS118 ?_
  obtain ⟨m1, hm1, hk⟩ := bs hk
  refine pMk hO hm1 (⟨ByteArray.empty, 0, 0, 0⟩ : Piece) tE129 tZ266 tB266 t0266 (fun b2 G hO => ?_)
  refine pA (.sl _ _ _) ?_
  refine pE (gn (wpL_sq (wpL_sq (wpL_rg ?_))))
  refine pA (.int _ _) ?_
  refine pE (gn (wpL_bl ?_))
  refine wpL_loopO (F := f197_L1 aA0) (fun s S' => ∃ (J : Nat → V) (G : Heap), s.1.length = m1 ∧ Owns H G [.blk b2 (.cells 4 ((flatL 0) s.1))] ∧ S' = ⟨hav [(0, .lit l1 aA0.length ((flatL 0) aA0)), (3, .sl b2 0 m1), (4, .int .i64 s.2)] J, G⟩) hk ⟨_, _, List.length_replicate, hO, St.hav _ ⟨rfl, rfl, rfl, trivial⟩⟩ ?_
  rintro ⟨x3, x4⟩ _ y1 ⟨J, G, hl3, hO, rfl⟩ hk hx1
  refine wpL_sq (wpL_sq (wpL_rg ?_))
  refine pM (.int _ _) ?_
  refine pM (.lit _ _ _) ?_
  refine pLen tS118 ?_
  refine pBi ?_
  refine pE (gn ?_)
  refine wpL_cd (b := decide (x4 < (aA0.length : Int))) (fun hb => ?_) (fun hb => ?_)
  · replace hk := ct hb hk
    refine wpL_sk (gn (wpL_sq (wpL_bl (wpL_rg ?_))))
    refine pM (.sl _ _ _) ?_
    refine pM (.int _ _) ?_
    refine pM (.lit _ _ _) ?_
    refine pM (.int _ _) ?_
    obtain ⟨c5, hc5, hk⟩ := bs hk
    refine pX hc5 tE118 tZ322 ?_
    refine pLp (.agg [_, _, _, _]) (rd2 (lm := 0) (off := 0) hc5 tA322 tZ322) ?_
    obtain ⟨v6, hv6, hk⟩ := bs hk
    refine pCall (fun _ => f286_run hv6) ?_
    obtain ⟨c7, hc7, hk⟩ := bs hk
    refine pXm hl3 hc7 tE129 tZ266 ?_
    refine pSm hO 0 hc7 tZ266 rfl v6 (.agg [_, _, _, _]) (fun G hO => ?_)
    refine pE (bn (gn (wpL_rg ?_)))
    refine pM (.int _ _) ?_
    refine pBi ?_
    refine pA (.int _ _) ?_
    refine pE (gn ?_)
    cases hk; exact ⟨_, rfl, _, _, (List.length_set.trans hl3), hO, St.hav _ ⟨rfl, rfl, rfl, trivial⟩⟩
  · replace hk := cf hb hk
    refine wpL_ex (ge (ge (be (gn ?_))))
    replace hk := lx hx1 hk
    refine wpL_sq (wpL_rg ?_)
    refine pM (.sl _ _ _) ?_
    refine pA (.sl _ _ _) ?_
    refine pE (gn (wpL_rt ?_))
    replace hk := Option.some.inj hk; subst hk; exact finThL hO (th_made (xs := x3) hl3 hlk 0) (resT (.sl _ _ _) resN)
/-- laws.toEnd -/
def f353 (aA0 : End) : Option End :=
  some aA0
theorem f353_run {aA0 : End} {r : End} {H : Heap} {lk : Lk} (hk : f353 aA0 = some r) (hlk : 0 < lk.length := by simp) : runL Try.prog hh 353 [.agg [.int .i64 aA0.Piece, .int .i64 aA0.Side]] H lk = some (.agg [.int .i64 r.Piece, .int .i64 r.Side], H) := by
  refine run_start Try.func353 rfl Try.ntmps353 Try.results353 rfl rfl fun hO => ?_
  unfold f353 at hk
  refine wpL_sq (wpL_rg ?_)
  refine pBox (cs := [_, _]) hO tZ394 (fun b1 G hO => ?_)
  refine pNew hO tZ260 t0260 (fun b2 G hO => ?_)
  refine pE (gn (wpL_sq (wpL_rg ?_)))
  refine pNew hO tZ260 t0260 (fun b3 G hO => ?_)
  refine pE (gn (wpL_sq (wpL_rg ?_)))
  refine pF tF394_0 ?_
  refine pLo hO 2 (.int _ _) tA3 ?_
  refine pF tF260_0 ?_
  refine pSt (xs := [_]) hO 0 tZ3 rfl (fun G hO => ?_)
  refine pE (gn (wpL_sq (wpL_rg ?_)))
  refine pF tF394_1 ?_
  refine pLo hO 2 (.int _ _) tA3 ?_
  refine pF tF260_1 ?_
  refine pSt (xs := [_]) hO 0 tZ3 rfl (fun G hO => ?_)
  refine pE (gn (wpL_sq (wpL_rg ?_)))
  refine pLs hO 0 [_, _] tA260 tZ260 ?_
  refine pSt (xs := [_, _]) hO 1 tZ260 rfl (fun G hO => ?_)
  refine pE (gn (wpL_rt ?_))
  replace hk := Option.some.inj hk; subst hk; exact finZ hO (fz_agg (n := 2) (fz_c (fz_int _ _) (fz_c (fz_int _ _) (fz_n)))) (resS hO 1 [_, _] tA260 tZ260 resN)
/-- laws.toEndS -/
def f333_L1 (aA0 : List End) : ((List End) × Int) → Option (((List End) × Int) ⊕ (List End)) := fun s =>
  (bif decide (s.2 < (aA0.length : Int)) then ((getI aA0 s.2).bind fun c5 => ((f353 c5).bind fun v6 => ((getI s.1 s.2).bind fun c7 => some (.inl (s.1.set s.2.toNat v6, w64 (s.2 + (1:Int))))))) else ((some s.1).map Sum.inr))
def f333 (aA0 : List End) : Option (List End) :=
  ((makeB 16 (aA0.length : Int)).bind fun m1 => (loopO (f333_L1 aA0) (List.replicate m1 (⟨0, 0⟩ : End), (0:Int))))
theorem f333_run {aA0 : List End} {r : (List End)} {l1 : Nat} {H : Heap} {lk : Lk} (hk : f333 aA0 = some r) (hlk : 0 < lk.length := by simp) : ∃ v H1, runL Try.prog hh 333 [.lit l1 aA0.length ((flatL 0) aA0)] H lk = some (v, H1) ∧ FreshL H r v H1 := by
  refine run_startR Try.func333 rfl Try.ntmps333 Try.results333 rfl rfl ?_
  have hO := Owns.nil H
  unfold f333 at hk
  refine wpL_sq (wpL_rg ?_)
  refine pA (.tl 0 []) ?_
  refine pE (gn (wpL_sq (wpL_rg ?_)))
  refine pM (.lit _ _ _) ?_
  refine pLen tS324 ?_
  obtain ⟨m1, hm1, hk⟩ := bs hk
  refine pMk hO hm1 (⟨0, 0⟩ : End) tE330 tZ260 tB260 t0260 (fun b2 G hO => ?_)
  refine pA (.sl _ _ _) ?_
  refine pE (gn (wpL_sq (wpL_sq (wpL_rg ?_))))
  refine pA (.int _ _) ?_
  refine pE (gn (wpL_bl ?_))
  refine wpL_loopO (F := f333_L1 aA0) (fun s S' => ∃ (J : Nat → V) (G : Heap), s.1.length = m1 ∧ Owns H G [.blk b2 (.cells 2 ((flatL 0) s.1))] ∧ S' = ⟨hav [(0, .lit l1 aA0.length ((flatL 0) aA0)), (3, .sl b2 0 m1), (4, .int .i64 s.2)] J, G⟩) hk ⟨_, _, List.length_replicate, hO, St.hav _ ⟨rfl, rfl, rfl, trivial⟩⟩ ?_
  rintro ⟨x3, x4⟩ _ y1 ⟨J, G, hl3, hO, rfl⟩ hk hx1
  refine wpL_sq (wpL_sq (wpL_rg ?_))
  refine pM (.int _ _) ?_
  refine pM (.lit _ _ _) ?_
  refine pLen tS324 ?_
  refine pBi ?_
  refine pE (gn ?_)
  refine wpL_cd (b := decide (x4 < (aA0.length : Int))) (fun hb => ?_) (fun hb => ?_)
  · replace hk := ct hb hk
    refine wpL_sk (gn (wpL_sq (wpL_bl (wpL_rg ?_))))
    refine pM (.sl _ _ _) ?_
    refine pM (.int _ _) ?_
    refine pM (.lit _ _ _) ?_
    refine pM (.int _ _) ?_
    obtain ⟨c5, hc5, hk⟩ := bs hk
    refine pX hc5 tE324 tZ394 ?_
    refine pLp (.agg [_, _]) (rd2 (lm := 0) (off := 0) hc5 tA394 tZ394) ?_
    obtain ⟨v6, hv6, hk⟩ := bs hk
    refine pCall (fun _ => f353_run hv6) ?_
    obtain ⟨c7, hc7, hk⟩ := bs hk
    refine pXm hl3 hc7 tE330 tZ260 ?_
    refine pSm hO 0 hc7 tZ260 rfl v6 (.agg [_, _]) (fun G hO => ?_)
    refine pE (bn (gn (wpL_rg ?_)))
    refine pM (.int _ _) ?_
    refine pBi ?_
    refine pA (.int _ _) ?_
    refine pE (gn ?_)
    cases hk; exact ⟨_, rfl, _, _, (List.length_set.trans hl3), hO, St.hav _ ⟨rfl, rfl, rfl, trivial⟩⟩
  · replace hk := cf hb hk
    refine wpL_ex (ge (ge (be (gn ?_))))
    replace hk := lx hx1 hk
    refine wpL_sq (wpL_rg ?_)
    refine pM (.sl _ _ _) ?_
    refine pA (.sl _ _ _) ?_
    refine pE (gn (wpL_rt ?_))
    replace hk := Option.some.inj hk; subst hk; exact finThL hO (th_made (xs := x3) hl3 hlk 0) (resT (.sl _ _ _) resN)
/-- laws.toJoint -/
def f287 (aA0 : Joint) : Option Joint :=
  ((f333 aA0.Ends).bind fun v4 => some ({ Kind := aA0.Kind, Name := aA0.Name, Ends := v4 } : Joint))
theorem f287_run {aA0 : Joint} {r : Joint} {l1 : Nat} {H : Heap} {lk : Lk} (hk : f287 aA0 = some r) (hlk : 0 < lk.length := by simp) : ∃ v H1, runL Try.prog hh 287 [.agg [.int .i64 aA0.Kind, .str aA0.Name, .lit l1 aA0.Ends.length ((flatL 0) aA0.Ends)]] H lk = some (v, H1) ∧ FreshS H r v H1 := by
  refine run_startR Try.func287 rfl Try.ntmps287 Try.results287 rfl rfl ?_
  have hO := Owns.nil H
  unfold f287 at hk
  refine wpL_sq (wpL_rg ?_)
  refine pBox (cs := [_, _, _]) hO tZ326 (fun b1 G hO => ?_)
  refine pNew hO tZ332 t0332 (fun b2 G hO => ?_)
  refine pE (gn (wpL_sq (wpL_rg ?_)))
  refine pNew hO tZ332 t0332 (fun b3 G hO => ?_)
  refine pE (gn (wpL_sq (wpL_rg ?_)))
  refine pF tF326_0 ?_
  refine pLo hO 2 (.int _ _) tA3 ?_
  refine pF tF332_0 ?_
  refine pSt (xs := [_]) hO 0 tZ3 rfl (fun G hO => ?_)
  refine pE (gn (wpL_sq (wpL_rg ?_)))
  refine pF tF326_1 ?_
  refine pLo hO 2 (.str _) tA9 ?_
  refine pF tF332_1 ?_
  refine pSt (xs := [_]) hO 0 tZ9 rfl (fun G hO => ?_)
  refine pE (gn (wpL_sq (wpL_rg ?_)))
  refine pF tF326_2 ?_
  refine pLo hO 2 (.lit _ _ _) tA324 ?_
  obtain ⟨v4, hv4, hk⟩ := bs hk
  refine pCN hO (fun _ => f333_run hv4) (fun u5 F5 G hO => ?_)
  refine pF tF332_2 ?_
  have hc6 := tl_cells hO (j := 0) rfl
  refine pSt (xs := [_]) hO 1 tZ330 rfl (fun G hO => ?_) (h3 := hc6.1) (h6 := one_cell hc6.2)
  refine pE (gn (wpL_sq (wpL_rg ?_)))
  refine pLs hO 1 [_, _, _] tA332 tZ332 ?_
  have hc7 := tl_cells hO (j := 0) rfl
  refine pSt (xs := [_, _, _]) hO 2 tZ332 rfl (fun G hO => ?_) (h6 := (all_c rfl (all_c rfl (all_c hc7.2 all_n))))
  refine pE (gn (wpL_rt ?_))
  replace hk := Option.some.inj hk; subst hk; exact finThS hO (th_Joint (x := ({ Kind := aA0.Kind, Name := aA0.Name, Ends := v4 } : Joint)) (th_pair (c1 := [_]) (th_int aA0.Kind) (th_pair (c1 := [_]) (th_str aA0.Name) (th_tree (x := v4) 0)))) (resS hO 2 [_, _, _] tA332 tZ332 resN)
/-- laws.toJointS -/
def f198_L1 (aA0 : List Joint) : ((List Joint) × Int) → Option (((List Joint) × Int) ⊕ (List Joint)) := fun s =>
  (bif decide (s.2 < (aA0.length : Int)) then ((getI aA0 s.2).bind fun c7 => ((f287 c7).bind fun v8 => ((getI s.1 s.2).bind fun c10 => some (.inl (s.1.set s.2.toNat v8, w64 (s.2 + (1:Int))))))) else ((some s.1).map Sum.inr))
def f198 (aA0 : List Joint) : Option (List Joint) :=
  ((makeB 48 (aA0.length : Int)).bind fun m1 => (loopO (f198_L1 aA0) (List.replicate m1 (⟨0, ByteArray.empty, []⟩ : Joint), (0:Int))))
theorem f198_run {aA0 : List Joint} {r : (List Joint)} {l1 m2 : Nat} {H : Heap} {lk : Lk} (hk : f198 aA0 = some r) (hlk : 0 < lk.length := by simp) : ∃ v H1, runL Try.prog hh 198 [.lit l1 aA0.length (flatL m2 aA0)] H lk = some (v, H1) ∧ FreshL H r v H1 := by
  refine run_startR Try.func198 rfl Try.ntmps198 Try.results198 rfl rfl ?_
  have hO := Owns.nil H
  unfold f198 at hk
  refine wpL_sq (wpL_rg ?_)
  refine pA (.tl 0 []) ?_
  refine pE (gn (wpL_sq (wpL_rg ?_)))
  refine pM (.lit _ _ _) ?_
  refine pLen tS119 ?_
  obtain ⟨m1, hm1, hk⟩ := bs hk
  refine pMkT hO hm1 (⟨0, ByteArray.empty, []⟩ : Joint) tE130 tZ332 tB332 t0332 (fun G => (show GoM.tr G (⟨0, ByteArray.empty, []⟩ : Joint) [.int .i64 0, .str ByteArray.empty, (.tl 0 [])] [] from ⟨[_], _, [], [], rfl, rfl, ⟨rfl, rfl⟩, ⟨[_], _, [], [], rfl, rfl, ⟨rfl, rfl⟩, .inl ⟨rfl, rfl, rfl⟩⟩⟩)) (fun b2 G hO => ?_)
  refine pA (.sl b2 0 m1) ?_
  refine pE (gn (wpL_sq (wpL_sq (wpL_rg ?_))))
  refine pA (.int _ _) ?_
  refine pE (gn (wpL_bl ?_))
  refine wpL_loopO (F := f198_L1 aA0) (fun s S' => ∃ (F5 : List Nat) (J : Nat → V) (G : Heap), Owns H G [Tree [] F5 s.1 [.sl b2 0 m1]] ∧ S' = ⟨hav [(0, .lit l1 aA0.length (flatL m2 aA0)), (3, (.sl b2 0 m1)), (4, .int .i64 s.2)] J, G⟩) hk ⟨[b2], _, _, hO, St.hav _ ⟨rfl, rfl, rfl, trivial⟩⟩ ?_
  rintro ⟨x4, x6⟩ _ y1 ⟨F5, J, G, hO, rfl⟩ hk hx1
  refine wpL_sq (wpL_sq (wpL_rg ?_))
  refine pM (.int _ _) ?_
  refine pM (.lit _ _ _) ?_
  refine pLen tS119 ?_
  refine pBi ?_
  refine pE (gn ?_)
  refine wpL_cd (b := decide (x6 < (aA0.length : Int))) (fun hb => ?_) (fun hb => ?_)
  · replace hk := ct hb hk
    refine wpL_sk (gn (wpL_sq (wpL_bl (wpL_rg ?_))))
    refine pM (.sl b2 0 m1) ?_
    refine pM (.int _ _) ?_
    refine pM (.lit _ _ _) ?_
    refine pM (.int _ _) ?_
    obtain ⟨c7, hc7, hk⟩ := bs hk
    refine pX hc7 tE119 tZ326 ?_
    refine pLp (.agg [_, _, _]) (rd2 (lm := m2) (off := 0) hc7 tA326 tZ326) ?_
    obtain ⟨v8, hv8, hk⟩ := bs hk
    refine pCNs hO (fun _ => f287_run hv8) (fun u9 F9 G hO => ?_)
    obtain ⟨c10, hc10, hk⟩ := bs hk
    refine pXT hO 1 hc10 tE130 tZ332 (fun b11 hb11 => ?_)
    refine pSTT hO 0 hb11 hc10 tZ332 rfl (fun G hO => ?_)
    refine pE (bn (gn (wpL_rg ?_)))
    refine pM (.int _ _) ?_
    refine pBi ?_
    refine pA (.int _ _) ?_
    refine pE (gn ?_)
    cases hk; exact ⟨_, rfl, (F5 ++ F9), _, _, hO, St.hav _ ⟨rfl, rfl, rfl, trivial⟩⟩
  · replace hk := cf hb hk
    refine wpL_ex (ge (ge (be (gn ?_))))
    replace hk := lx hx1 hk
    refine wpL_sq (wpL_rg ?_)
    refine pM (.sl b2 0 m1) ?_
    refine pA (.sl b2 0 m1) ?_
    refine pE (gn (wpL_rt ?_))
    replace hk := Option.some.inj hk; subst hk; exact finThL hO (th_tree (x := x4) 0) (resT (.sl b2 0 m1) resN)
/-- laws.toNet -/
def f80 (aA0 : Net) : Option Net :=
  ((f197 aA0.Pieces).bind fun v4 => ((f198 aA0.Joints).bind fun v7 => some ({ Pieces := v4, Joints := v7 } : Net)))
theorem f80_run {aA0 : Net} {r : Net} {l1 l2 m3 : Nat} {H : Heap} {lk : Lk} (hk : f80 aA0 = some r) (hlk : 0 < lk.length := by simp) : ∃ v H1, runL Try.prog hh 80 [.agg [.lit l1 aA0.Pieces.length ((flatL 0) aA0.Pieces), .lit l2 aA0.Joints.length (flatL m3 aA0.Joints)]] H lk = some (v, H1) ∧ FreshS H r v H1 := by
  refine run_startR Try.func80 rfl Try.ntmps80 Try.results80 rfl rfl ?_
  have hO := Owns.nil H
  unfold f80 at hk
  refine wpL_sq (wpL_rg ?_)
  refine pBox (cs := [_, _]) hO tZ121 (fun b1 G hO => ?_)
  refine pNew hO tZ132 t0132 (fun b2 G hO => ?_)
  refine pE (gn (wpL_sq (wpL_rg ?_)))
  refine pNew hO tZ132 t0132 (fun b3 G hO => ?_)
  refine pE (gn (wpL_sq (wpL_rg ?_)))
  refine pF tF121_0 ?_
  refine pLo hO 2 (.lit _ _ _) tA118 ?_
  obtain ⟨v4, hv4, hk⟩ := bs hk
  refine pCN hO (fun _ => f197_run hv4) (fun u5 F5 G hO => ?_)
  refine pF tF132_0 ?_
  have hc6 := tl_cells hO (j := 0) rfl
  refine pSt (xs := [_]) hO 1 tZ129 rfl (fun G hO => ?_) (h3 := hc6.1) (h6 := one_cell hc6.2)
  refine pE (gn (wpL_sq (wpL_rg ?_)))
  refine pF tF121_1 ?_
  refine pLo hO 3 (.lit _ _ _) tA119 ?_
  obtain ⟨v7, hv7, hk⟩ := bs hk
  refine pCN hO (fun _ => f198_run hv7) (fun u8 F8 G hO => ?_)
  refine pF tF132_1 ?_
  have hc9 := tl_cells hO (j := 0) rfl
  refine pSt (xs := [_]) hO 2 tZ130 rfl (fun G hO => ?_) (h3 := hc9.1) (h6 := one_cell hc9.2)
  refine pE (gn (wpL_sq (wpL_rg ?_)))
  refine pLs hO 2 [_, _] tA132 tZ132 ?_
  have hc10 := tl_cells hO (j := 1) rfl
  have hc11 := tl_cells hO (j := 0) rfl
  refine pSt (xs := [_, _]) hO 3 tZ132 rfl (fun G hO => ?_) (h6 := (all_c hc10.2 (all_c hc11.2 all_n)))
  refine pE (gn (wpL_rt ?_))
  replace hk := Option.some.inj hk; subst hk; exact finThS hO (th_Net (x := ({ Pieces := v4, Joints := v7 } : Net)) (th_pair (c1 := [_]) (th_tree (x := v4) 1) (th_tree (x := v7) 0))) (resS hO 3 [_, _] tA132 tZ132 resN)
/-- laws.toSpot -/
def f100 (aA0 : Spot) : Option Spot :=
  some aA0
theorem f100_run {aA0 : Spot} {r : Spot} {H : Heap} {lk : Lk} (hk : f100 aA0 = some r) (hlk : 0 < lk.length := by simp) : runL Try.prog hh 100 [.agg [.int .i64 aA0.Piece, .int .i64 aA0.At, .int .i64 aA0.Way]] H lk = some (.agg [.int .i64 r.Piece, .int .i64 r.At, .int .i64 r.Way], H) := by
  refine run_start Try.func100 rfl Try.ntmps100 Try.results100 rfl rfl fun hO => ?_
  unfold f100 at hk
  refine wpL_sq (wpL_rg ?_)
  refine pBox (cs := [_, _, _]) hO tZ123 (fun b1 G hO => ?_)
  refine pNew hO tZ134 t0134 (fun b2 G hO => ?_)
  refine pE (gn (wpL_sq (wpL_rg ?_)))
  refine pNew hO tZ134 t0134 (fun b3 G hO => ?_)
  refine pE (gn (wpL_sq (wpL_rg ?_)))
  refine pF tF123_0 ?_
  refine pLo hO 2 (.int _ _) tA3 ?_
  refine pF tF134_0 ?_
  refine pSt (xs := [_]) hO 0 tZ3 rfl (fun G hO => ?_)
  refine pE (gn (wpL_sq (wpL_rg ?_)))
  refine pF tF123_1 ?_
  refine pLo hO 2 (.int _ _) tA3 ?_
  refine pF tF134_1 ?_
  refine pSt (xs := [_]) hO 0 tZ3 rfl (fun G hO => ?_)
  refine pE (gn (wpL_sq (wpL_rg ?_)))
  refine pF tF123_2 ?_
  refine pLo hO 2 (.int _ _) tA3 ?_
  refine pF tF134_2 ?_
  refine pSt (xs := [_]) hO 0 tZ3 rfl (fun G hO => ?_)
  refine pE (gn (wpL_sq (wpL_rg ?_)))
  refine pLs hO 0 [_, _, _] tA134 tZ134 ?_
  refine pSt (xs := [_, _, _]) hO 1 tZ134 rfl (fun G hO => ?_)
  refine pE (gn (wpL_rt ?_))
  replace hk := Option.some.inj hk; subst hk; exact finZ hO (fz_agg (n := 2) (fz_c (fz_int _ _) (fz_c (fz_int _ _) (fz_c (fz_int _ _) (fz_n))))) (resS hO 1 [_, _, _] tA134 tZ134 resN)
/-- laws.toStep -/
def f256 (aA0 : Step) : Option Step :=
  some aA0
theorem f256_run {aA0 : Step} {r : Step} {H : Heap} {lk : Lk} (hk : f256 aA0 = some r) (hlk : 0 < lk.length := by simp) : runL Try.prog hh 256 [.agg [.int .i64 aA0.Piece, .int .i64 aA0.Way]] H lk = some (.agg [.int .i64 r.Piece, .int .i64 r.Way], H) := by
  refine run_start Try.func256 rfl Try.ntmps256 Try.results256 rfl rfl fun hO => ?_
  unfold f256 at hk
  refine wpL_sq (wpL_rg ?_)
  refine pBox (cs := [_, _]) hO tZ289 (fun b1 G hO => ?_)
  refine pNew hO tZ258 t0258 (fun b2 G hO => ?_)
  refine pE (gn (wpL_sq (wpL_rg ?_)))
  refine pNew hO tZ258 t0258 (fun b3 G hO => ?_)
  refine pE (gn (wpL_sq (wpL_rg ?_)))
  refine pF tF289_0 ?_
  refine pLo hO 2 (.int _ _) tA3 ?_
  refine pF tF258_0 ?_
  refine pSt (xs := [_]) hO 0 tZ3 rfl (fun G hO => ?_)
  refine pE (gn (wpL_sq (wpL_rg ?_)))
  refine pF tF289_1 ?_
  refine pLo hO 2 (.int _ _) tA3 ?_
  refine pF tF258_1 ?_
  refine pSt (xs := [_]) hO 0 tZ3 rfl (fun G hO => ?_)
  refine pE (gn (wpL_sq (wpL_rg ?_)))
  refine pLs hO 0 [_, _] tA258 tZ258 ?_
  refine pSt (xs := [_, _]) hO 1 tZ258 rfl (fun G hO => ?_)
  refine pE (gn (wpL_rt ?_))
  replace hk := Option.some.inj hk; subst hk; exact finZ hO (fz_agg (n := 2) (fz_c (fz_int _ _) (fz_c (fz_int _ _) (fz_n)))) (resS hO 1 [_, _] tA258 tZ258 resN)
/-- laws.toStepS -/
def f156_L1 (aA0 : List Step) : ((List Step) × Int) → Option (((List Step) × Int) ⊕ (List Step)) := fun s =>
  (bif decide (s.2 < (aA0.length : Int)) then ((getI aA0 s.2).bind fun c5 => ((f256 c5).bind fun v6 => ((getI s.1 s.2).bind fun c7 => some (.inl (s.1.set s.2.toNat v6, w64 (s.2 + (1:Int))))))) else ((some s.1).map Sum.inr))
def f156 (aA0 : List Step) : Option (List Step) :=
  ((makeB 16 (aA0.length : Int)).bind fun m1 => (loopO (f156_L1 aA0) (List.replicate m1 (⟨0, 0⟩ : Step), (0:Int))))
theorem f156_run {aA0 : List Step} {r : (List Step)} {l1 : Nat} {H : Heap} {lk : Lk} (hk : f156 aA0 = some r) (hlk : 0 < lk.length := by simp) : ∃ v H1, runL Try.prog hh 156 [.lit l1 aA0.length ((flatL 0) aA0)] H lk = some (v, H1) ∧ FreshL H r v H1 := by
  refine run_startR Try.func156 rfl Try.ntmps156 Try.results156 rfl rfl ?_
  have hO := Owns.nil H
  unfold f156 at hk
  refine wpL_sq (wpL_rg ?_)
  refine pA (.tl 0 []) ?_
  refine pE (gn (wpL_sq (wpL_rg ?_)))
  refine pM (.lit _ _ _) ?_
  refine pLen tS55 ?_
  obtain ⟨m1, hm1, hk⟩ := bs hk
  refine pMk hO hm1 (⟨0, 0⟩ : Step) tE63 tZ258 tB258 t0258 (fun b2 G hO => ?_)
  refine pA (.sl _ _ _) ?_
  refine pE (gn (wpL_sq (wpL_sq (wpL_rg ?_))))
  refine pA (.int _ _) ?_
  refine pE (gn (wpL_bl ?_))
  refine wpL_loopO (F := f156_L1 aA0) (fun s S' => ∃ (J : Nat → V) (G : Heap), s.1.length = m1 ∧ Owns H G [.blk b2 (.cells 2 ((flatL 0) s.1))] ∧ S' = ⟨hav [(0, .lit l1 aA0.length ((flatL 0) aA0)), (3, .sl b2 0 m1), (4, .int .i64 s.2)] J, G⟩) hk ⟨_, _, List.length_replicate, hO, St.hav _ ⟨rfl, rfl, rfl, trivial⟩⟩ ?_
  rintro ⟨x3, x4⟩ _ y1 ⟨J, G, hl3, hO, rfl⟩ hk hx1
  refine wpL_sq (wpL_sq (wpL_rg ?_))
  refine pM (.int _ _) ?_
  refine pM (.lit _ _ _) ?_
  refine pLen tS55 ?_
  refine pBi ?_
  refine pE (gn ?_)
  refine wpL_cd (b := decide (x4 < (aA0.length : Int))) (fun hb => ?_) (fun hb => ?_)
  · replace hk := ct hb hk
    refine wpL_sk (gn (wpL_sq (wpL_bl (wpL_rg ?_))))
    refine pM (.sl _ _ _) ?_
    refine pM (.int _ _) ?_
    refine pM (.lit _ _ _) ?_
    refine pM (.int _ _) ?_
    obtain ⟨c5, hc5, hk⟩ := bs hk
    refine pX hc5 tE55 tZ289 ?_
    refine pLp (.agg [_, _]) (rd2 (lm := 0) (off := 0) hc5 tA289 tZ289) ?_
    obtain ⟨v6, hv6, hk⟩ := bs hk
    refine pCall (fun _ => f256_run hv6) ?_
    obtain ⟨c7, hc7, hk⟩ := bs hk
    refine pXm hl3 hc7 tE63 tZ258 ?_
    refine pSm hO 0 hc7 tZ258 rfl v6 (.agg [_, _]) (fun G hO => ?_)
    refine pE (bn (gn (wpL_rg ?_)))
    refine pM (.int _ _) ?_
    refine pBi ?_
    refine pA (.int _ _) ?_
    refine pE (gn ?_)
    cases hk; exact ⟨_, rfl, _, _, (List.length_set.trans hl3), hO, St.hav _ ⟨rfl, rfl, rfl, trivial⟩⟩
  · replace hk := cf hb hk
    refine wpL_ex (ge (ge (be (gn ?_))))
    replace hk := lx hx1 hk
    refine wpL_sq (wpL_rg ?_)
    refine pM (.sl _ _ _) ?_
    refine pA (.sl _ _ _) ?_
    refine pE (gn (wpL_rt ?_))
    replace hk := Option.some.inj hk; subst hk; exact finThL hO (th_made (xs := x3) hl3 hlk 0) (resT (.sl _ _ _) resN)
/-- laws.toTrain -/
def f81 (aA0 : Train) : Option Train :=
  ((f100 aA0.Front).bind fun v4 => ((f156 aA0.Back).bind fun v5 => some ({ Front := v4, Long := aA0.Long, Back := v5 } : Train)))
theorem f81_run {aA0 : Train} {r : Train} {l1 : Nat} {H : Heap} {lk : Lk} (hk : f81 aA0 = some r) (hlk : 0 < lk.length := by simp) : ∃ v H1, runL Try.prog hh 81 [.agg [.int .i64 aA0.Front.Piece, .int .i64 aA0.Front.At, .int .i64 aA0.Front.Way, .int .i64 aA0.Long, .lit l1 aA0.Back.length ((flatL 0) aA0.Back)]] H lk = some (v, H1) ∧ FreshS H r v H1 := by
  refine run_startR Try.func81 rfl Try.ntmps81 Try.results81 rfl rfl ?_
  have hO := Owns.nil H
  unfold f81 at hk
  refine wpL_sq (wpL_rg ?_)
  refine pBox (cs := [_, _, _, _, _]) hO tZ125 (fun b1 G hO => ?_)
  refine pNew hO tZ136 t0136 (fun b2 G hO => ?_)
  refine pE (gn (wpL_sq (wpL_rg ?_)))
  refine pNew hO tZ136 t0136 (fun b3 G hO => ?_)
  refine pE (gn (wpL_sq (wpL_rg ?_)))
  refine pF tF125_0 ?_
  refine pLs hO 2 [_, _, _] tA123 tZ123 ?_
  obtain ⟨v4, hv4, hk⟩ := bs hk
  refine pCall (fun _ => f100_run hv4) ?_
  refine pF tF136_0 ?_
  refine pSt (xs := [_, _, _]) hO 0 tZ134 rfl (fun G hO => ?_)
  refine pE (gn (wpL_sq (wpL_rg ?_)))
  refine pF tF125_1 ?_
  refine pLo hO 2 (.int _ _) tA3 ?_
  refine pF tF136_1 ?_
  refine pSt (xs := [_]) hO 0 tZ3 rfl (fun G hO => ?_)
  refine pE (gn (wpL_sq (wpL_rg ?_)))
  refine pF tF125_2 ?_
  refine pLo hO 2 (.lit _ _ _) tA55 ?_
  obtain ⟨v5, hv5, hk⟩ := bs hk
  refine pCN hO (fun _ => f156_run hv5) (fun u6 F6 G hO => ?_)
  refine pF tF136_2 ?_
  have hc7 := tl_cells hO (j := 0) rfl
  refine pSt (xs := [_]) hO 1 tZ63 rfl (fun G hO => ?_) (h3 := hc7.1) (h6 := one_cell hc7.2)
  refine pE (gn (wpL_sq (wpL_rg ?_)))
  refine pLs hO 1 [_, _, _, _, _] tA136 tZ136 ?_
  have hc8 := tl_cells hO (j := 0) rfl
  refine pSt (xs := [_, _, _, _, _]) hO 2 tZ136 rfl (fun G hO => ?_) (h6 := (all_c rfl (all_c rfl (all_c rfl (all_c rfl (all_c hc8.2 all_n))))))
  refine pE (gn (wpL_rt ?_))
  replace hk := Option.some.inj hk; subst hk; exact finThS hO (th_Train (x := ({ Front := v4, Long := aA0.Long, Back := v5 } : Train)) (th_pair (c1 := [_, _, _]) (th_fl (α := Spot) v4) (th_pair (c1 := [_]) (th_int aA0.Long) (th_tree (x := v5) 0)))) (resS hO 2 [_, _, _, _, _] tA136 tZ136 resN)
/-- spec.l11name -/
def f329_L1 (aS0 : ByteArray) : Int → Option (Int ⊕ Bool) := fun s =>
  (bif decide (s < (aS0.size : Int)) then ((byteAt aS0 s).bind fun c2 => (bif !(((decide (c2 ≥ (97:Int)) && decide (c2 ≤ (122:Int))) || (decide (c2 ≥ (48:Int)) && decide (c2 ≤ (57:Int)))) || (c2 == (95:Int))) then ((some false).map Sum.inr) else some (.inl (w64 (s + (1:Int)))))) else ((some (decide ((aS0.size : Int) ≥ (1:Int)) && decide ((aS0.size : Int) ≤ (20:Int)))).map Sum.inr))
def f329 (aS0 : ByteArray) : Option Bool :=
  (loopO (f329_L1 aS0) ((0:Int)))
theorem f329_run {aS0 : ByteArray} {r : Bool} {H : Heap} {lk : Lk} (hk : f329 aS0 = some r) (hlk : 0 < lk.length := by simp) : runL Try.prog hh 329 [.str aS0] H lk = some (.bool r, H) := by
  refine run_start Try.func329 rfl Try.ntmps329 Try.results329 rfl rfl fun hO => ?_
  unfold f329 at hk
  refine wpL_sq (wpL_rg ?_)
  refine pA (.bool _) ?_
  refine pE (gn (wpL_sq (wpL_sq (wpL_rg ?_))))
  refine pA (.int _ _) ?_
  refine pE (gn (wpL_bl ?_))
  refine wpL_loopO (F := f329_L1 aS0) (fun s S' => ∃ (J : Nat → V) (G : Heap), Owns H G [] ∧ S' = ⟨hav [(0, .str aS0), (3, .int .i64 s)] J, G⟩) hk ⟨_, _, hO, St.hav _ ⟨rfl, rfl, trivial⟩⟩ ?_
  rintro x1 _ y1 ⟨J, G, hO, rfl⟩ hk hx1
  refine wpL_sq (wpL_sq (wpL_rg ?_))
  refine pM (.int _ _) ?_
  refine pM (.str _) ?_
  refine pLen tS9 ?_
  refine pBi ?_
  refine pE (gn ?_)
  refine wpL_cd (b := decide (x1 < (aS0.size : Int))) (fun hb => ?_) (fun hb => ?_)
  · replace hk := ct hb hk
    refine wpL_sk (gn (wpL_sq (wpL_bl (wpL_sq (wpL_rg ?_)))))
    refine pM (.str _) ?_
    refine pM (.int _ _) ?_
    obtain ⟨c2, hc2, hk⟩ := bs hk
    refine pIx Try.underlying9 hc2 ?_
    refine pA (.int _ _) ?_
    refine pE (gn (wpL_sq (wpL_rg ?_)))
    refine pM (.int _ _) ?_
    refine pBi ?_
    refine pM (.bool _) ?_
    refine wpR_mid (l1 := [_, _, _]) (fun S' => ∃ J, S' = ⟨hav [(0, .str aS0), (3, .int .i64 x1), (4, .int .u8 c2), (19, .bool (decide (c2 ≥ (97:Int)) && decide (c2 ≤ (122:Int))))] J, G⟩) ?_ ?_
    · refine bc (b := decide (c2 ≥ (97:Int))) (fun hg1 => ?_) (fun hg1 => ?_)
      · refine pGy hg1 ?_
        refine pM (.int _ _) ?_
        refine pGy hg1 ?_
        refine pBi ?_
        refine pPt hg1 (.bool _) ?_
        exact pE ⟨_, St.hav _ ⟨rfl, rfl, rfl, by rw [hg1]; rfl, trivial⟩⟩
      · refine pGn hg1 ?_
        refine pGn hg1 ?_
        refine pPf hg1 (.bool _) ?_
        exact pE ⟨_, St.hav _ ⟨rfl, rfl, rfl, by rw [hg1]; rfl, trivial⟩⟩
    · rintro _ ⟨J, rfl⟩
      refine pM (.bool _) ?_
      refine wpR_mid (l1 := [_, _, _, _, _, _, _]) (fun S' => ∃ J, S' = ⟨hav [(0, .str aS0), (3, .int .i64 x1), (4, .int .u8 c2), (27, .bool ((decide (c2 ≥ (97:Int)) && decide (c2 ≤ (122:Int))) || (decide (c2 ≥ (48:Int)) && decide (c2 ≤ (57:Int)))))] J, G⟩) ?_ ?_
      · refine bc (b := (decide (c2 ≥ (97:Int)) && decide (c2 ≤ (122:Int)))) (fun hg1 => ?_) (fun hg1 => ?_)
        · refine pGn hg1 ?_
          refine pGn hg1 ?_
          refine pGn hg1 ?_
          refine pGu ?_
          refine pGu ?_
          refine pGn hg1 ?_
          refine pPt hg1 (.bool _) ?_
          exact pE ⟨_, St.hav _ ⟨rfl, rfl, rfl, by rw [hg1]; rfl, trivial⟩⟩
        · refine pGy hg1 ?_
          refine pM (.int _ _) ?_
          refine pGy hg1 ?_
          refine pBi ?_
          refine pGy hg1 ?_
          refine pM (.bool _) ?_
          refine wpR_mid (l1 := [_, _, _]) (fun S' => ∃ J, S' = ⟨hav [(0, .str aS0), (3, .int .i64 x1), (4, .int .u8 c2), (20, .bool (decide (c2 ≥ (97:Int)) && decide (c2 ≤ (122:Int)))), (26, .bool (decide (c2 ≥ (48:Int)) && decide (c2 ≤ (57:Int))))] J, G⟩) ?_ ?_
          · refine bc (b := decide (c2 ≥ (48:Int))) (fun hg2 => ?_) (fun hg2 => ?_)
            · refine pGy hg2 ?_
              refine pM (.int _ _) ?_
              refine pGy hg2 ?_
              refine pBi ?_
              refine pGy hg1 ?_
              refine pPt hg2 (.bool _) ?_
              exact pE ⟨_, St.hav _ ⟨rfl, rfl, rfl, rfl, by rw [hg2]; rfl, trivial⟩⟩
            · refine pGn hg2 ?_
              refine pGn hg2 ?_
              refine pGy hg1 ?_
              refine pPf hg2 (.bool _) ?_
              exact pE ⟨_, St.hav _ ⟨rfl, rfl, rfl, rfl, by rw [hg2]; rfl, trivial⟩⟩
          · rintro _ ⟨J, rfl⟩
            refine pPf hg1 (.bool _) ?_
            exact pE ⟨_, St.hav _ ⟨rfl, rfl, rfl, by rw [hg1]; rfl, trivial⟩⟩
      · rintro _ ⟨J, rfl⟩
        refine pM (.bool _) ?_
        refine wpR_mid (l1 := [_, _, _]) (fun S' => ∃ J, S' = ⟨hav [(0, .str aS0), (3, .int .i64 x1), (31, .bool (((decide (c2 ≥ (97:Int)) && decide (c2 ≤ (122:Int))) || (decide (c2 ≥ (48:Int)) && decide (c2 ≤ (57:Int)))) || (c2 == (95:Int))))] J, G⟩) ?_ ?_
        · refine bc (b := ((decide (c2 ≥ (97:Int)) && decide (c2 ≤ (122:Int))) || (decide (c2 ≥ (48:Int)) && decide (c2 ≤ (57:Int))))) (fun hg1 => ?_) (fun hg1 => ?_)
          · refine pGn hg1 ?_
            refine pGn hg1 ?_
            refine pPt hg1 (.bool _) ?_
            exact pE ⟨_, St.hav _ ⟨rfl, rfl, by rw [hg1]; rfl, trivial⟩⟩
          · refine pGy hg1 ?_
            refine pM (.int _ _) ?_
            refine pGy hg1 ?_
            refine pBi ?_
            refine pPf hg1 (.bool _) ?_
            exact pE ⟨_, St.hav _ ⟨rfl, rfl, by rw [hg1]; rfl, trivial⟩⟩
        · rintro _ ⟨J, rfl⟩
          refine pU ?_
          refine pE (gn ?_)
          refine wpL_cd (b := !(((decide (c2 ≥ (97:Int)) && decide (c2 ≤ (122:Int))) || (decide (c2 ≥ (48:Int)) && decide (c2 ≤ (57:Int)))) || (c2 == (95:Int)))) (fun hb => ?_) (fun hb => ?_)
          · replace hk := ct hb hk
            refine wpL_sq (wpL_rg ?_)
            refine pA (.bool _) ?_
            refine pE (gn (wpL_rt (br (gr (gr (br (gr ?_)))))))
            replace hk := lx hx1 hk
            replace hk := Option.some.inj hk; subst hk; exact fin0 hO
          · replace hk := cf hb hk
            refine wpL_sk (bn (gn (wpL_rg ?_)))
            refine pM (.int _ _) ?_
            refine pBi ?_
            refine pA (.int _ _) ?_
            refine pE (gn ?_)
            cases hk; exact ⟨_, rfl, _, _, hO, St.hav _ ⟨rfl, rfl, trivial⟩⟩
  · replace hk := cf hb hk
    refine wpL_ex (ge (ge (be (gn ?_))))
    replace hk := lx hx1 hk
    refine wpL_sq (wpL_rg ?_)
    refine pM (.str _) ?_
    refine pLen tS9 ?_
    refine pBi ?_
    refine pM (.bool _) ?_
    refine wpR_mid (l1 := [_, _, _, _]) (fun S' => ∃ J, S' = ⟨hav [(40, .bool (decide ((aS0.size : Int) ≥ (1:Int)) && decide ((aS0.size : Int) ≤ (20:Int))))] J, G⟩) ?_ ?_
    · refine bc (b := decide ((aS0.size : Int) ≥ (1:Int))) (fun hg1 => ?_) (fun hg1 => ?_)
      · refine pGy hg1 ?_
        refine pM (.str _) ?_
        refine pGy hg1 ?_
        refine pLen tS9 ?_
        refine pGy hg1 ?_
        refine pBi ?_
        refine pPt hg1 (.bool _) ?_
        exact pE ⟨_, St.hav _ ⟨by rw [hg1]; rfl, trivial⟩⟩
      · refine pGn hg1 ?_
        refine pGn hg1 ?_
        refine pGn hg1 ?_
        refine pPf hg1 (.bool _) ?_
        exact pE ⟨_, St.hav _ ⟨by rw [hg1]; rfl, trivial⟩⟩
    · rintro _ ⟨J, rfl⟩
      refine pA (.bool _) ?_
      refine pE (gn (wpL_rt ?_))
      replace hk := Option.some.inj hk; subst hk; exact fin0 hO
/-- spec.l11in -/
def f330 (aX0 : Int) (aA1 : Int) (aB2 : Int) : Option Bool :=
  some (decide (aX0 ≥ aA1) && decide (aX0 ≤ aB2))
theorem f330_run {aX0 : Int} {aA1 : Int} {aB2 : Int} {r : Bool} {H : Heap} {lk : Lk} (hk : f330 aX0 aA1 aB2 = some r) (hlk : 0 < lk.length := by simp) : runL Try.prog hh 330 [.int .i64 aX0, .int .i64 aA1, .int .i64 aB2] H lk = some (.bool r, H) := by
  refine run_start Try.func330 rfl Try.ntmps330 Try.results330 rfl rfl fun hO => ?_
  unfold f330 at hk
  refine wpL_sq (wpL_rg ?_)
  refine pA (.bool _) ?_
  refine pE (gn (wpL_sq (wpL_rg ?_)))
  refine pM (.int _ _) ?_
  refine pM (.int _ _) ?_
  refine pBi ?_
  refine pM (.bool _) ?_
  refine wpR_mid (l1 := [_, _, _, _]) (fun S' => ∃ J, S' = ⟨hav [(14, .bool (decide (aX0 ≥ aA1) && decide (aX0 ≤ aB2)))] J, H⟩) ?_ ?_
  · refine bc (b := decide (aX0 ≥ aA1)) (fun hg1 => ?_) (fun hg1 => ?_)
    · refine pGy hg1 ?_
      refine pM (.int _ _) ?_
      refine pGy hg1 ?_
      refine pM (.int _ _) ?_
      refine pGy hg1 ?_
      refine pBi ?_
      refine pPt hg1 (.bool _) ?_
      exact pE ⟨_, St.hav _ ⟨by rw [hg1]; rfl, trivial⟩⟩
    · refine pGn hg1 ?_
      refine pGn hg1 ?_
      refine pGn hg1 ?_
      refine pPf hg1 (.bool _) ?_
      exact pE ⟨_, St.hav _ ⟨by rw [hg1]; rfl, trivial⟩⟩
  · rintro _ ⟨J, rfl⟩
    refine pA (.bool _) ?_
    refine pE (gn (wpL_rt ?_))
    replace hk := Option.some.inj hk; subst hk; exact fin0 hO
/-- spec.l11end -/
def f352 (aN0 : Net) (aE1 : End) : Option Bool :=
  ((f330 aE1.Piece (0:Int) (w64 ((aN0.Pieces.length : Int) - (1:Int)))).bind fun v3 => ((bif v3 then ((f330 aE1.Side (0:Int) (1:Int)).bind fun v5 => some v5) else some false).bind fun t4 => some t4))
theorem f352_run {aN0 : Net} {aE1 : End} {r : Bool} {l1 l2 m3 : Nat} {H : Heap} {lk : Lk} (hk : f352 aN0 aE1 = some r) (hlk : 0 < lk.length := by simp) : runL Try.prog hh 352 [.agg [.lit l1 aN0.Pieces.length ((flatL 0) aN0.Pieces), .lit l2 aN0.Joints.length (flatL m3 aN0.Joints)], .agg [.int .i64 aE1.Piece, .int .i64 aE1.Side]] H lk = some (.bool r, H) := by
  refine run_start Try.func352 rfl Try.ntmps352 Try.results352 rfl rfl fun hO => ?_
  unfold f352 at hk
  refine wpL_sq (wpL_rg ?_)
  refine pBox (cs := [_, _]) hO tZ132 (fun b1 G hO => ?_)
  refine pBox (cs := [_, _]) hO tZ260 (fun b2 G hO => ?_)
  refine pA (.bool _) ?_
  refine pE (gn (wpL_sq (wpL_rg ?_)))
  refine pF tF260_0 ?_
  refine pLo hO 0 (.int _ _) tA3 ?_
  refine pF tF132_0 ?_
  refine pLo hO 1 (.lit _ _ _) tA129 ?_
  refine pLen tS129 ?_
  refine pBi ?_
  obtain ⟨v3, hv3, hk⟩ := bs hk
  refine pCall (fun _ => f330_run hv3) ?_
  refine pM (.bool _) ?_
  obtain ⟨t4, ht, hk⟩ := bs hk
  refine wpR_mid (l1 := [_, _, _, _]) (fun S' => ∃ J, S' = ⟨hav [(16, .bool t4)] J, G⟩) ?_ ?_
  · refine bc (b := v3) (fun hg1 => ?_) (fun hg1 => ?_)
    · replace hk := ct hg1 ht
      refine pGy hg1 ?_
      refine pF tF260_1 ?_
      refine pGy hg1 ?_
      refine pLo hO 0 (.int _ _) tA3 ?_
      refine pGy hg1 ?_
      obtain ⟨v5, hv5, hk⟩ := bs hk
      refine pCall (fun _ => f330_run hv5) ?_
      refine pPt hg1 (.bool _) ?_
      cases hk; exact pE ⟨_, St.hav _ ⟨rfl, trivial⟩⟩
    · replace hk := cf hg1 ht
      refine pGn hg1 ?_
      refine pGn hg1 ?_
      refine pGn hg1 ?_
      refine pPf hg1 (.bool _) ?_
      cases hk; exact pE ⟨_, St.hav _ ⟨rfl, trivial⟩⟩
  · rintro _ ⟨J, rfl⟩
    refine pA (.bool _) ?_
    refine pE (gn (wpL_rt ?_))
    replace hk := Option.some.inj hk; subst hk; exact fin0 hO
/-- spec.l11joint -/
def f331_L2 (aN0 : Net) (aI1 : Int) (c2 : Joint) : Int → Option (Int ⊕ Int) := fun s =>
  (bif decide (s < aI1) then ((getI aN0.Joints s).bind fun c11 => (bif (c11.Name.toList == c2.Name.toList) then ((some (4:Int)).map Sum.inr) else some (.inl (w64 (s + (1:Int)))))) else ((some (0:Int)).map Sum.inr))
def f331_L1 (aN0 : Net) (aI1 : Int) (c2 : Joint) : Int → Option (Int ⊕ Int) := fun s =>
  (bif decide (s < (c2.Ends.length : Int)) then ((getI c2.Ends s).bind fun c6 => ((f352 aN0 c6).bind fun v8 => (bif !v8 then ((some (3:Int)).map Sum.inr) else some (.inl (w64 (s + (1:Int))))))) else ((bif decide (c2.Kind < (3:Int)) then (bif !(c2.Name.toList == ({ data := #[] } : ByteArray).toList) then some (4:Int) else some (0:Int)) else ((f329 c2.Name).bind fun v9 => (bif !v9 then some (4:Int) else (loopO (f331_L2 aN0 aI1 c2) ((0:Int)))))).map Sum.inr))
def f331 (aN0 : Net) (aI1 : Int) : Option Int :=
  ((getI aN0.Joints aI1).bind fun c2 => ((f330 c2.Kind (1:Int) (4:Int)).bind fun v4 => (bif (!v4 || ((c2.Ends.length : Int) != c2.Kind)) then some (3:Int) else (loopO (f331_L1 aN0 aI1 c2) ((0:Int))))))
theorem f331_run {aN0 : Net} {aI1 : Int} {r : Int} {l1 l2 m3 : Nat} {H : Heap} {lk : Lk} (hk : f331 aN0 aI1 = some r) (hlk : 0 < lk.length := by simp) : runL Try.prog hh 331 [.agg [.lit l1 aN0.Pieces.length ((flatL 0) aN0.Pieces), .lit l2 aN0.Joints.length (flatL m3 aN0.Joints)], .int .i64 aI1] H lk = some (.int .i64 r, H) := by
  refine run_start Try.func331 rfl Try.ntmps331 Try.results331 rfl rfl fun hO => ?_
  unfold f331 at hk
  refine wpL_sq (wpL_rg ?_)
  refine pBox (cs := [_, _]) hO tZ132 (fun b1 G hO => ?_)
  refine pA (.int _ _) ?_
  refine pE (gn (wpL_sq (wpL_rg ?_)))
  refine pF tF132_1 ?_
  refine pLo hO 0 (.lit _ _ _) tA130 ?_
  refine pM (.int _ _) ?_
  obtain ⟨c2, hc2, hk⟩ := bs hk
  refine pX hc2 tE130 tZ332 ?_
  refine pLp (.agg [_, _, _]) (rd2 (lm := m3) (off := 0) hc2 tA332 tZ332) ?_
  refine pNew hO tZ332 t0332 (fun b3 G hO => ?_)
  refine pSt (xs := [_, _, _]) hO 0 tZ332 rfl (fun G hO => ?_)
  refine pE (gn (wpL_sq (wpL_sq (wpL_rg ?_))))
  refine pF tF332_0 ?_
  refine pLo hO 0 (.int _ _) tA3 ?_
  obtain ⟨v4, hv4, hk⟩ := bs hk
  refine pCall (fun _ => f330_run hv4) ?_
  refine pU ?_
  refine pM (.bool _) ?_
  refine wpR_mid (l1 := [_, _, _, _, _, _, _]) (fun S' => ∃ J, S' = ⟨hav [(1, .int .i64 aI1), (2, .ptr b1 0), (5, .ptr b3 0), (25, .bool (!v4 || ((c2.Ends.length : Int) != c2.Kind)))] J, G⟩) ?_ ?_
  · refine bc (b := !v4) (fun hg1 => ?_) (fun hg1 => ?_)
    · refine pGn hg1 ?_
      refine pGn hg1 ?_
      refine pGn hg1 ?_
      refine pGn hg1 ?_
      refine pGn hg1 ?_
      refine pGn hg1 ?_
      refine pPt hg1 (.bool _) ?_
      exact pE ⟨_, St.hav _ ⟨rfl, rfl, rfl, by rw [hg1]; rfl, trivial⟩⟩
    · refine pGy hg1 ?_
      refine pF tF332_2 ?_
      refine pGy hg1 ?_
      refine pLo hO 0 (.lit _ _ _) tA330 ?_
      refine pGy hg1 ?_
      refine pLen tS330 ?_
      refine pGy hg1 ?_
      refine pF tF332_0 ?_
      refine pGy hg1 ?_
      refine pLo hO 0 (.int _ _) tA3 ?_
      refine pGy hg1 ?_
      refine pBi ?_
      refine pPf hg1 (.bool _) ?_
      exact pE ⟨_, St.hav _ ⟨rfl, rfl, rfl, by rw [hg1]; rfl, trivial⟩⟩
  · rintro _ ⟨J, rfl⟩
    refine pE (gn ?_)
    refine wpL_cd (b := (!v4 || ((c2.Ends.length : Int) != c2.Kind))) (fun hb => ?_) (fun hb => ?_)
    · replace hk := ct hb hk
      refine wpL_sq (wpL_rg ?_)
      refine pA (.int _ _) ?_
      refine pE (gn (wpL_rt (gr ?_)))
      replace hk := Option.some.inj hk; subst hk; exact fin0 hO
    · replace hk := cf hb hk
      refine wpL_sk (gn (wpL_sq (wpL_sq (wpL_rg ?_))))
      refine pF tF332_2 ?_
      refine pLo hO 0 (.lit _ _ _) tA330 ?_
      refine pLen tS330 ?_
      refine pM (.int _ _) ?_
      refine pE (gn (wpL_bl ?_))
      refine wpL_loopO (F := f331_L1 aN0 aI1 c2) (fun s S' => ∃ (J : Nat → V) (G : Heap), Owns H G [.blk b3 (.cells 3 [.int .i64 c2.Kind, .str c2.Name, .lit m3 c2.Ends.length ((flatL 0) c2.Ends)]), .blk b1 (.cells 2 [.lit l1 aN0.Pieces.length ((flatL 0) aN0.Pieces), .lit l2 aN0.Joints.length (flatL m3 aN0.Joints)])] ∧ S' = ⟨hav [(1, .int .i64 aI1), (2, .ptr b1 0), (5, .ptr b3 0), (27, .lit m3 c2.Ends.length ((flatL 0) c2.Ends)), (28, .int .i64 (c2.Ends.length : Int)), (29, .int .i64 s)] J, G⟩) hk ⟨_, _, hO, St.hav _ ⟨rfl, rfl, rfl, rfl, rfl, rfl, trivial⟩⟩ ?_
      rintro x5 _ y1 ⟨J, G, hO, rfl⟩ hk hx1
      refine wpL_sq (wpL_rg ?_)
      refine pBi ?_
      refine pE (gn (wpL_sq ?_))
      refine wpL_cd (b := decide (x5 < (c2.Ends.length : Int))) (fun hb => ?_) (fun hb => ?_)
      · replace hk := ct hb hk
        refine wpL_sk (gn (wpL_sq (wpL_bl (wpL_sq (wpL_rg ?_)))))
        obtain ⟨c6, hc6, hk⟩ := bs hk
        refine pX hc6 tE330 tZ260 ?_
        refine pLp (.agg [_, _]) (rd2 (lm := 0) (off := 0) hc6 tA260 tZ260) ?_
        refine pNew hO tZ260 t0260 (fun b7 G hO => ?_)
        refine pSt (xs := [_, _]) hO 0 tZ260 rfl (fun G hO => ?_)
        refine pE (gn (wpL_sq (wpL_rg ?_)))
        refine pLs hO 2 [_, _] tA132 tZ132 ?_
        refine pLs hO 0 [_, _] tA260 tZ260 ?_
        obtain ⟨v8, hv8, hk⟩ := bs hk
        refine pCall (fun _ => f352_run hv8) ?_
        refine pU ?_
        refine pE (gn ?_)
        refine wpL_cd (b := !v8) (fun hb => ?_) (fun hb => ?_)
        · replace hk := ct hb hk
          refine wpL_sq (wpL_rg ?_)
          refine pA (.int _ _) ?_
          refine pE (gn (wpL_rt (br (gr (gr (br (gr ?_)))))))
          replace hk := lx hx1 hk
          replace hk := Option.some.inj hk; subst hk; exact fin0 hO
        · replace hk := cf hb hk
          refine wpL_sk (bn (gn (wpL_rg ?_)))
          refine pBi ?_
          refine pM (.int _ _) ?_
          refine pE (gn ?_)
          cases hk; exact ⟨_, rfl, _, _, (Owns.pick hO [1, 2] (by decide) rfl), St.hav _ ⟨rfl, rfl, rfl, rfl, rfl, rfl, trivial⟩⟩
      · replace hk := cf hb hk
        refine wpL_ex (ge (ge (be (gn ?_))))
        replace hk := lx hx1 hk
        refine wpL_sq (wpL_sq (wpL_rg ?_))
        refine pF tF332_0 ?_
        refine pLo hO 0 (.int _ _) tA3 ?_
        refine pBi ?_
        refine pE (gn ?_)
        refine wpL_cd (b := decide (c2.Kind < (3:Int))) (fun hb => ?_) (fun hb => ?_)
        · replace hk := ct hb hk
          refine wpL_sq (wpL_sq (wpL_rg ?_))
          refine pF tF332_1 ?_
          refine pLo hO 0 (.str _) tA9 ?_
          refine pB (a := .str _) (b := .str _) ?_
          refine pE (gn ?_)
          refine wpL_cd (b := !(c2.Name.toList == ({ data := #[] } : ByteArray).toList)) (fun hb => ?_) (fun hb => ?_)
          · replace hk := ct hb hk
            refine wpL_sq (wpL_rg ?_)
            refine pA (.int _ _) ?_
            refine pE (gn (wpL_rt (gr (gr ?_))))
            replace hk := Option.some.inj hk; subst hk; exact fin0 hO
          · replace hk := cf hb hk
            refine wpL_sk (gn (wpL_sq (wpL_rg ?_)))
            refine pA (.int _ _) ?_
            refine pE (gn (wpL_rt (gr ?_)))
            replace hk := Option.some.inj hk; subst hk; exact fin0 hO
        · replace hk := cf hb hk
          refine wpL_sk (gn (wpL_sq (wpL_sq (wpL_rg ?_))))
          refine pF tF332_1 ?_
          refine pLo hO 0 (.str _) tA9 ?_
          obtain ⟨v9, hv9, hk⟩ := bs hk
          refine pCall (fun _ => f329_run hv9) ?_
          refine pU ?_
          refine pE (gn ?_)
          refine wpL_cd (b := !v9) (fun hb => ?_) (fun hb => ?_)
          · replace hk := ct hb hk
            refine wpL_sq (wpL_rg ?_)
            refine pA (.int _ _) ?_
            refine pE (gn (wpL_rt (gr ?_)))
            replace hk := Option.some.inj hk; subst hk; exact fin0 hO
          · replace hk := cf hb hk
            refine wpL_sk (gn (wpL_sq (wpL_sq (wpL_rg ?_))))
            refine pA (.int _ _) ?_
            refine pE (gn (wpL_bl ?_))
            refine wpL_loopO (F := f331_L2 aN0 aI1 c2) (fun s S' => ∃ (J : Nat → V) (G : Heap), Owns H G [.blk b3 (.cells 3 [.int .i64 c2.Kind, .str c2.Name, .lit m3 c2.Ends.length ((flatL 0) c2.Ends)]), .blk b1 (.cells 2 [.lit l1 aN0.Pieces.length ((flatL 0) aN0.Pieces), .lit l2 aN0.Joints.length (flatL m3 aN0.Joints)])] ∧ S' = ⟨hav [(1, .int .i64 aI1), (2, .ptr b1 0), (5, .ptr b3 0), (8, .int .i64 s)] J, G⟩) hk ⟨_, _, hO, St.hav _ ⟨rfl, rfl, rfl, rfl, trivial⟩⟩ ?_
            rintro x10 _ y1 ⟨J, G, hO, rfl⟩ hk hx1
            refine wpL_sq (wpL_sq (wpL_rg ?_))
            refine pM (.int _ _) ?_
            refine pM (.int _ _) ?_
            refine pBi ?_
            refine pE (gn ?_)
            refine wpL_cd (b := decide (x10 < aI1)) (fun hb => ?_) (fun hb => ?_)
            · replace hk := ct hb hk
              refine wpL_sk (gn (wpL_sq (wpL_bl (wpL_sq ?_))))
              refine wpL_drw [(0, true), (1, true), (2, true), (3, true), (4, true), (5, true), (6, true), (7, true), (8, false)] [_, _, _, _, _, _, _, _, _] (by decide +kernel) (by rfl) ?_
              refine pF tF132_1 ?_
              refine pLo hO 1 (.lit _ _ _) tA130 ?_
              refine pM (.int _ _) ?_
              obtain ⟨c11, hc11, hk⟩ := bs hk
              refine pX hc11 tE130 tZ332 ?_
              refine pF tF332_1 ?_
              refine pLp (.str _) (rd1 (lm := m3) (off := 1) hc11 tA9) ?_
              refine pF tF332_1 ?_
              refine pLo hO 0 (.str _) tA9 ?_
              refine pB (a := .str _) (b := .str _) ?_
              refine pE (gn ?_)
              refine wpL_cd (b := (c11.Name.toList == c2.Name.toList)) (fun hb => ?_) (fun hb => ?_)
              · replace hk := ct hb hk
                refine wpL_sq (wpL_rg ?_)
                refine pA (.int _ _) ?_
                refine pE (gn (wpL_rt (br (gr (gr (br (gr ?_)))))))
                replace hk := lx hx1 hk
                replace hk := Option.some.inj hk; subst hk; exact fin0 hO
              · replace hk := cf hb hk
                refine wpL_sk (bn (gn (wpL_rg ?_)))
                refine pM (.int _ _) ?_
                refine pBi ?_
                refine pA (.int _ _) ?_
                refine pE (gn ?_)
                cases hk; exact ⟨_, rfl, _, _, hO, St.hav _ ⟨rfl, rfl, rfl, rfl, trivial⟩⟩
            · replace hk := cf hb hk
              refine wpL_ex (ge (ge (be (gn ?_))))
              replace hk := lx hx1 hk
              refine wpL_sq (wpL_rg ?_)
              refine pA (.int _ _) ?_
              refine pE (gn (wpL_rt ?_))
              replace hk := Option.some.inj hk; subst hk; exact fin0 hO
/-- spec.l11uses -/
def f332_k3 (x8 : Int) (x9 : Int) : Option ((Int × Int) ⊕ ((Int × Int) ⊕ Int)) :=
  some (.inl (x9, w64 (x8 + (1:Int))))
def f332_L2 (aE1 : End) (x4 : Int) (c5 : Joint) : (Int × Int) → Option ((Int × Int) ⊕ ((Int × Int) ⊕ Int)) := fun s =>
  (bif decide (s.2 < (c5.Ends.length : Int)) then ((getI c5.Ends s.2).bind fun c10 => (bif ((c10.Piece == aE1.Piece) && ((c10.Side == aE1.Side) && true)) then (f332_k3 s.2 (w64 (s.1 + (1:Int)))) else (f332_k3 s.2 s.1))) else ((some (.inl (s.1, w64 (x4 + (1:Int))))).map Sum.inr))
def f332_L1 (aN0 : Net) (aE1 : End) : (Int × Int) → Option ((Int × Int) ⊕ Int) := fun s =>
  (bif decide (s.2 < (aN0.Joints.length : Int)) then ((getI aN0.Joints s.2).bind fun c5 => (loopO (f332_L2 aE1 s.2 c5) (s.1, (0:Int)))) else ((some s.1).map Sum.inr))
def f332 (aN0 : Net) (aE1 : End) : Option Int :=
  (loopO (f332_L1 aN0 aE1) ((0:Int), (0:Int)))
theorem f332_run {aN0 : Net} {aE1 : End} {r : Int} {l1 l2 m3 : Nat} {H : Heap} {lk : Lk} (hk : f332 aN0 aE1 = some r) (hlk : 0 < lk.length := by simp) : runL Try.prog hh 332 [.agg [.lit l1 aN0.Pieces.length ((flatL 0) aN0.Pieces), .lit l2 aN0.Joints.length (flatL m3 aN0.Joints)], .agg [.int .i64 aE1.Piece, .int .i64 aE1.Side]] H lk = some (.int .i64 r, H) := by
  refine run_start Try.func332 rfl Try.ntmps332 Try.results332 rfl rfl fun hO => ?_
  unfold f332 at hk
  refine wpL_sq (wpL_rg ?_)
  refine pBox (cs := [_, _]) hO tZ132 (fun b1 G hO => ?_)
  refine pBox (cs := [_, _]) hO tZ260 (fun b2 G hO => ?_)
  refine pA (.int _ _) ?_
  refine pE (gn (wpL_sq (wpL_rg ?_)))
  refine pA (.int _ _) ?_
  refine pE (gn (wpL_sq (wpL_sq (wpL_rg ?_))))
  refine pF tF132_1 ?_
  refine pLo hO 1 (.lit _ _ _) tA130 ?_
  refine pLen tS130 ?_
  refine pM (.int _ _) ?_
  refine pE (gn (wpL_bl ?_))
  refine wpL_loopO (F := f332_L1 aN0 aE1) (fun s S' => ∃ (J : Nat → V) (G : Heap), Owns H G [.blk b2 (.cells 2 [.int .i64 aE1.Piece, .int .i64 aE1.Side])] ∧ S' = ⟨hav [(3, .ptr b2 0), (5, .int .i64 s.1), (11, .lit l2 aN0.Joints.length (flatL m3 aN0.Joints)), (12, .int .i64 (aN0.Joints.length : Int)), (13, .int .i64 s.2)] J, G⟩) hk ⟨_, _, (Owns.pick hO [0] (by decide) rfl), St.hav _ ⟨rfl, rfl, rfl, rfl, rfl, trivial⟩⟩ ?_
  rintro ⟨x3, x4⟩ _ y1 ⟨J, G, hO, rfl⟩ hk hx1
  refine wpL_sq (wpL_rg ?_)
  refine pBi ?_
  refine pE (gn (wpL_sq ?_))
  refine wpL_cd (b := decide (x4 < (aN0.Joints.length : Int))) (fun hb => ?_) (fun hb => ?_)
  · replace hk := ct hb hk
    refine wpL_sk (gn (wpL_sq (wpL_bl (wpL_sq (wpL_rg ?_)))))
    obtain ⟨c5, hc5, hk⟩ := bs hk
    refine pX hc5 tE130 tZ332 ?_
    refine pLp (.agg [_, _, _]) (rd2 (lm := m3) (off := 0) hc5 tA332 tZ332) ?_
    refine pNew hO tZ332 t0332 (fun b6 G hO => ?_)
    refine pSt (xs := [_, _, _]) hO 0 tZ332 rfl (fun G hO => ?_)
    refine pE (gn (wpL_sq (wpL_rg ?_)))
    refine pF tF332_2 ?_
    refine pLo hO 0 (.lit _ _ _) tA330 ?_
    refine pLen tS330 ?_
    refine pM (.int _ _) ?_
    refine pE (gn (wpL_bl ?_))
    refine wpL_loopO (F := f332_L2 aE1 x4 c5) (fun s S' => ∃ (J : Nat → V) (G : Heap), Owns H G [.blk b2 (.cells 2 [.int .i64 aE1.Piece, .int .i64 aE1.Side])] ∧ S' = ⟨hav [(3, .ptr b2 0), (5, .int .i64 s.1), (11, .lit l2 aN0.Joints.length (flatL m3 aN0.Joints)), (12, .int .i64 (aN0.Joints.length : Int)), (13, .int .i64 x4), (18, .lit m3 c5.Ends.length ((flatL 0) c5.Ends)), (19, .int .i64 (c5.Ends.length : Int)), (20, .int .i64 s.2)] J, G⟩) hk ⟨_, _, (Owns.pick hO [1] (by decide) rfl), St.hav _ ⟨rfl, rfl, rfl, rfl, rfl, rfl, rfl, rfl, trivial⟩⟩ ?_
    rintro ⟨x7, x8⟩ _ y2 ⟨J, G, hO, rfl⟩ hk hx2
    refine wpL_sq (wpL_rg ?_)
    refine pBi ?_
    refine pE (gn (wpL_sq ?_))
    refine wpL_cd (b := decide (x8 < (c5.Ends.length : Int))) (fun hb => ?_) (fun hb => ?_)
    · replace hk := ct hb hk
      refine wpL_sk (gn ?_)
      refine wpL_mid (fun S' => ∃ (x9 : Int) (J : Nat → V) (G : Heap), f332_k3 x8 x9 = some y2 ∧ Owns H G [.blk b2 (.cells 2 [.int .i64 aE1.Piece, .int .i64 aE1.Side])] ∧ S' = ⟨hav [(3, .ptr b2 0), (5, .int .i64 x9), (11, .lit l2 aN0.Joints.length (flatL m3 aN0.Joints)), (12, .int .i64 (aN0.Joints.length : Int)), (13, .int .i64 x4), (18, .lit m3 c5.Ends.length ((flatL 0) c5.Ends)), (19, .int .i64 (c5.Ends.length : Int)), (20, .int .i64 x8)] J, G⟩) ?_ ?_
      · refine wpL_bl (wpL_sq (wpL_rg ?_))
        obtain ⟨c10, hc10, hk⟩ := bs hk
        refine pX hc10 tE330 tZ260 ?_
        refine pLp (.agg [_, _]) (rd2 (lm := 0) (off := 0) hc10 tA260 tZ260) ?_
        refine pNew hO tZ260 t0260 (fun b11 G hO => ?_)
        refine pSt (xs := [_, _]) hO 0 tZ260 rfl (fun G hO => ?_)
        refine pE (gn (wpL_sq (wpL_rg ?_)))
        refine pLs hO 0 [_, _] tA260 tZ260 ?_
        refine pLs hO 1 [_, _] tA260 tZ260 ?_
        refine pGq tG260 (eqc (eqi _ _ _) (eqc (eqi _ _ _) (rfl))) ?_
        refine pE (gn ?_)
        refine wpL_cd (b := ((c10.Piece == aE1.Piece) && ((c10.Side == aE1.Side) && true))) (fun hb => ?_) (fun hb => ?_)
        · replace hk := ct hb hk
          refine wpL_rg ?_
          refine pM (.int _ _) ?_
          refine pBi ?_
          refine pA (.int _ _) ?_
          refine pE (bn (gn ?_))
          exact ⟨w64 (x7 + (1:Int)), _, _, hk, (Owns.pick hO [1] (by decide) rfl), St.hav _ ⟨rfl, rfl, rfl, rfl, rfl, rfl, rfl, rfl, trivial⟩⟩
        · replace hk := cf hb hk
          refine wpL_sk (bn (gn ?_))
          exact ⟨x7, _, _, hk, (Owns.pick hO [1] (by decide) rfl), St.hav _ ⟨rfl, rfl, rfl, rfl, rfl, rfl, rfl, rfl, trivial⟩⟩
      · rintro _ ⟨x9, J, G, hk, hO, rfl⟩
        refine wpL_rg ?_
        refine pBi ?_
        refine pM (.int _ _) ?_
        refine pE (gn ?_)
        cases hk; exact ⟨_, rfl, _, _, hO, St.hav _ ⟨rfl, rfl, rfl, rfl, rfl, rfl, rfl, rfl, trivial⟩⟩
    · replace hk := cf hb hk
      refine wpL_ex (ge (ge (be (bn (gn ?_)))))
      replace hk := lx hx2 hk
      refine wpL_rg ?_
      refine pBi ?_
      refine pM (.int _ _) ?_
      refine pE (gn ?_)
      cases hk; exact ⟨_, rfl, _, _, hO, St.hav _ ⟨rfl, rfl, rfl, rfl, rfl, trivial⟩⟩
  · replace hk := cf hb hk
    refine wpL_ex (ge (ge (be (gn ?_))))
    replace hk := lx hx1 hk
    refine wpL_sq (wpL_rg ?_)
    refine pM (.int _ _) ?_
    refine pA (.int _ _) ?_
    refine pE (gn (wpL_rt ?_))
    replace hk := Option.some.inj hk; subst hk; exact fin0 hO
/-- spec.NetOk -/
def f284_L2 (aN0 : Net) (x3 : Int) (c4 : Piece) : Int → Option (Int ⊕ (Int ⊕ Fault)) := fun s =>
  (bif decide (s < x3) then ((getI aN0.Pieces s).bind fun c14 => (bif (c14.Name.toList == c4.Name.toList) then (((some ({ Code := (2:Int), At := x3 } : Fault)).map Sum.inr).map Sum.inr) else some (.inl (w64 (s + (1:Int)))))) else ((some (.inl (w64 (x3 + (1:Int))))).map Sum.inr))
def f284_L4 (aN0 : Net) (x15 : Int) : Int → Option (Int ⊕ (Int ⊕ Fault)) := fun s =>
  (bif decide (s < (aN0.Joints.length : Int)) then ((f331 aN0 s).bind fun v17 => (bif (v17 == x15) then (((some ({ Code := x15, At := s } : Fault)).map Sum.inr).map Sum.inr) else some (.inl (w64 (s + (1:Int)))))) else ((some (.inl (w64 (x15 + (1:Int))))).map Sum.inr))
def f284_L6 (aN0 : Net) (x18 : Int) : Int → Option (Int ⊕ (Int ⊕ Fault)) := fun s =>
  (bif decide (s < (2:Int)) then ((f332 aN0 ({ Piece := x18, Side := s } : End)).bind fun v20 => (bif (v20 != (1:Int)) then (((some ({ Code := (5:Int), At := x18 } : Fault)).map Sum.inr).map Sum.inr) else some (.inl (w64 (s + (1:Int)))))) else ((some (.inl (w64 (x18 + (1:Int))))).map Sum.inr))
def f284_L5 (aN0 : Net) : Int → Option (Int ⊕ Fault) := fun s =>
  (bif decide (s < (aN0.Pieces.length : Int)) then (loopO (f284_L6 aN0 s) ((0:Int))) else ((some ({ Code := 0, At := 0 } : Fault)).map Sum.inr))
def f284_L3 (aN0 : Net) : Int → Option (Int ⊕ Fault) := fun s =>
  (bif decide (s ≤ (4:Int)) then (loopO (f284_L4 aN0 s) ((0:Int))) else ((loopO (f284_L5 aN0) ((0:Int))).map Sum.inr))
def f284_L1 (aN0 : Net) : Int → Option (Int ⊕ Fault) := fun s =>
  (bif decide (s < (aN0.Pieces.length : Int)) then ((getI aN0.Pieces s).bind fun c4 => ((f329 c4.Name).bind fun v6 => ((bif !v6 then some true else ((f330 c4.Len (1:Int) (10000000:Int)).bind fun v8 => some (!v8))).bind fun t7 => ((bif t7 then some true else ((f330 c4.Speed (1:Int) (10000:Int)).bind fun v10 => some (!v10))).bind fun t9 => ((bif t9 then some true else ((f330 c4.Brake (1:Int) (1000:Int)).bind fun v12 => some (!v12))).bind fun t11 => (bif t11 then ((some ({ Code := (2:Int), At := s } : Fault)).map Sum.inr) else (loopO (f284_L2 aN0 s c4) ((0:Int))))))))) else ((loopO (f284_L3 aN0) ((3:Int))).map Sum.inr))
def f284 (aN0 : Net) : Option Fault :=
  (bif ((((aN0.Pieces.length : Int) == (0:Int)) || decide ((aN0.Pieces.length : Int) > (100:Int))) || decide ((aN0.Joints.length : Int) > (120:Int))) then some ({ Code := (1:Int), At := 0 } : Fault) else (loopO (f284_L1 aN0) ((0:Int))))
theorem f284_run {aN0 : Net} {r : Fault} {l1 l2 m3 : Nat} {H : Heap} {lk : Lk} (hk : f284 aN0 = some r) (hlk : 0 < lk.length := by simp) : runL Try.prog hh 284 [.agg [.lit l1 aN0.Pieces.length ((flatL 0) aN0.Pieces), .lit l2 aN0.Joints.length (flatL m3 aN0.Joints)]] H lk = some (.agg [.int .i64 r.Code, .int .i64 r.At], H) := by
  refine run_start Try.func284 rfl Try.ntmps284 Try.results284 rfl rfl fun hO => ?_
  unfold f284 at hk
  refine wpL_sq (wpL_rg ?_)
  refine pBox (cs := [_, _]) hO tZ132 (fun b1 G hO => ?_)
  refine pNew hO tZ77 t077 (fun b2 G hO => ?_)
  refine pE (gn (wpL_sq (wpL_sq (wpL_rg ?_))))
  refine pF tF132_0 ?_
  refine pLo hO 1 (.lit _ _ _) tA129 ?_
  refine pLen tS129 ?_
  refine pBi ?_
  refine pM (.bool _) ?_
  refine wpR_mid (l1 := [_, _, _, _, _]) (fun S' => ∃ J, S' = ⟨hav [(1, .ptr b1 0), (2, .ptr b2 0), (19, .bool (((aN0.Pieces.length : Int) == (0:Int)) || decide ((aN0.Pieces.length : Int) > (100:Int))))] J, G⟩) ?_ ?_
  · refine bc (b := ((aN0.Pieces.length : Int) == (0:Int))) (fun hg1 => ?_) (fun hg1 => ?_)
    · refine pGn hg1 ?_
      refine pGn hg1 ?_
      refine pGn hg1 ?_
      refine pGn hg1 ?_
      refine pPt hg1 (.bool _) ?_
      exact pE ⟨_, St.hav _ ⟨rfl, rfl, by rw [hg1]; rfl, trivial⟩⟩
    · refine pGy hg1 ?_
      refine pF tF132_0 ?_
      refine pGy hg1 ?_
      refine pLo hO 1 (.lit _ _ _) tA129 ?_
      refine pGy hg1 ?_
      refine pLen tS129 ?_
      refine pGy hg1 ?_
      refine pBi ?_
      refine pPf hg1 (.bool _) ?_
      exact pE ⟨_, St.hav _ ⟨rfl, rfl, by rw [hg1]; rfl, trivial⟩⟩
  · rintro _ ⟨J, rfl⟩
    refine pM (.bool _) ?_
    refine wpR_mid (l1 := [_, _, _, _, _]) (fun S' => ∃ J, S' = ⟨hav [(1, .ptr b1 0), (2, .ptr b2 0), (25, .bool ((((aN0.Pieces.length : Int) == (0:Int)) || decide ((aN0.Pieces.length : Int) > (100:Int))) || decide ((aN0.Joints.length : Int) > (120:Int))))] J, G⟩) ?_ ?_
    · refine bc (b := (((aN0.Pieces.length : Int) == (0:Int)) || decide ((aN0.Pieces.length : Int) > (100:Int)))) (fun hg1 => ?_) (fun hg1 => ?_)
      · refine pGn hg1 ?_
        refine pGn hg1 ?_
        refine pGn hg1 ?_
        refine pGn hg1 ?_
        refine pPt hg1 (.bool _) ?_
        exact pE ⟨_, St.hav _ ⟨rfl, rfl, by rw [hg1]; rfl, trivial⟩⟩
      · refine pGy hg1 ?_
        refine pF tF132_1 ?_
        refine pGy hg1 ?_
        refine pLo hO 1 (.lit _ _ _) tA130 ?_
        refine pGy hg1 ?_
        refine pLen tS130 ?_
        refine pGy hg1 ?_
        refine pBi ?_
        refine pPf hg1 (.bool _) ?_
        exact pE ⟨_, St.hav _ ⟨rfl, rfl, by rw [hg1]; rfl, trivial⟩⟩
    · rintro _ ⟨J, rfl⟩
      refine pE (gn ?_)
      refine wpL_cd (b := ((((aN0.Pieces.length : Int) == (0:Int)) || decide ((aN0.Pieces.length : Int) > (100:Int))) || decide ((aN0.Joints.length : Int) > (120:Int)))) (fun hb => ?_) (fun hb => ?_)
      · replace hk := ct hb hk
        refine wpL_sq (wpL_rg ?_)
        refine pBd [_, _] t077 tP77 ?_
        refine pSt (xs := [_, _]) hO 0 tZ77 rfl (fun G hO => ?_)
        refine pE (gn (wpL_rt (gr ?_)))
        replace hk := Option.some.inj hk; subst hk; exact finZ hO (fz_agg (n := 2) (fz_c (fz_int _ _) (fz_c (fz_int _ _) (fz_n)))) (resS hO 0 [_, _] tA77 tZ77 resN)
      · replace hk := cf hb hk
        refine wpL_sk (gn (wpL_sq (wpL_sq (wpL_rg ?_))))
        refine pF tF132_0 ?_
        refine pLo hO 1 (.lit _ _ _) tA129 ?_
        refine pLen tS129 ?_
        refine pM (.int _ _) ?_
        refine pE (gn (wpL_bl ?_))
        refine wpL_loopO (F := f284_L1 aN0) (fun s S' => ∃ (J : Nat → V) (G : Heap), Owns H G [.blk b2 (.cells 2 [.int .i64 0, .int .i64 0]), .blk b1 (.cells 2 [.lit l1 aN0.Pieces.length ((flatL 0) aN0.Pieces), .lit l2 aN0.Joints.length (flatL m3 aN0.Joints)])] ∧ S' = ⟨hav [(1, .ptr b1 0), (2, .ptr b2 0), (28, .lit l1 aN0.Pieces.length ((flatL 0) aN0.Pieces)), (29, .int .i64 (aN0.Pieces.length : Int)), (30, .int .i64 s)] J, G⟩) hk ⟨_, _, hO, St.hav _ ⟨rfl, rfl, rfl, rfl, rfl, trivial⟩⟩ ?_
        rintro x3 _ y1 ⟨J, G, hO, rfl⟩ hk hx1
        refine wpL_sq (wpL_rg ?_)
        refine pBi ?_
        refine pE (gn (wpL_sq ?_))
        refine wpL_cd (b := decide (x3 < (aN0.Pieces.length : Int))) (fun hb => ?_) (fun hb => ?_)
        · replace hk := ct hb hk
          refine wpL_sk (gn (wpL_sq (wpL_bl (wpL_sq (wpL_rg ?_)))))
          refine pM (.int _ _) ?_
          obtain ⟨c4, hc4, hk⟩ := bs hk
          refine pX hc4 tE129 tZ266 ?_
          refine pLp (.agg [_, _, _, _]) (rd2 (lm := 0) (off := 0) hc4 tA266 tZ266) ?_
          refine pNew hO tZ266 t0266 (fun b5 G hO => ?_)
          refine pA (.int _ _) ?_
          refine pSt (xs := [_, _, _, _]) hO 0 tZ266 rfl (fun G hO => ?_)
          refine pE (gn (wpL_sq (wpL_sq (wpL_rg ?_))))
          refine pF tF266_0 ?_
          refine pLo hO 0 (.str _) tA9 ?_
          obtain ⟨v6, hv6, hk⟩ := bs hk
          refine pCall (fun _ => f329_run hv6) ?_
          refine pU ?_
          refine pM (.bool _) ?_
          obtain ⟨t7, ht, hk⟩ := bs hk
          refine wpR_mid (l1 := [_, _, _, _, _]) (fun S' => ∃ J, S' = ⟨hav [(1, .ptr b1 0), (2, .ptr b2 0), (3, .int .i64 x3), (4, .ptr b5 0), (28, .lit l1 aN0.Pieces.length ((flatL 0) aN0.Pieces)), (29, .int .i64 (aN0.Pieces.length : Int)), (30, .int .i64 x3), (44, .bool t7)] J, G⟩) ?_ ?_
          · refine bc (b := !v6) (fun hg1 => ?_) (fun hg1 => ?_)
            · replace hk := ct hg1 ht
              refine pGn hg1 ?_
              refine pGn hg1 ?_
              refine pGn hg1 ?_
              refine pGn hg1 ?_
              refine pPt hg1 (.bool _) ?_
              cases hk; exact pE ⟨_, St.hav _ ⟨rfl, rfl, rfl, rfl, rfl, rfl, rfl, rfl, trivial⟩⟩
            · replace hk := cf hg1 ht
              refine pGy hg1 ?_
              refine pF tF266_1 ?_
              refine pGy hg1 ?_
              refine pLo hO 0 (.int _ _) tA3 ?_
              refine pGy hg1 ?_
              obtain ⟨v8, hv8, hk⟩ := bs hk
              refine pCall (fun _ => f330_run hv8) ?_
              refine pGy hg1 ?_
              refine pU ?_
              refine pPf hg1 (.bool _) ?_
              cases hk; exact pE ⟨_, St.hav _ ⟨rfl, rfl, rfl, rfl, rfl, rfl, rfl, rfl, trivial⟩⟩
          · rintro _ ⟨J, rfl⟩
            refine pM (.bool _) ?_
            obtain ⟨t9, ht, hk⟩ := bs hk
            refine wpR_mid (l1 := [_, _, _, _, _]) (fun S' => ∃ J, S' = ⟨hav [(1, .ptr b1 0), (2, .ptr b2 0), (3, .int .i64 x3), (4, .ptr b5 0), (28, .lit l1 aN0.Pieces.length ((flatL 0) aN0.Pieces)), (29, .int .i64 (aN0.Pieces.length : Int)), (30, .int .i64 x3), (50, .bool t9)] J, G⟩) ?_ ?_
            · refine bc (b := t7) (fun hg1 => ?_) (fun hg1 => ?_)
              · replace hk := ct hg1 ht
                refine pGn hg1 ?_
                refine pGn hg1 ?_
                refine pGn hg1 ?_
                refine pGn hg1 ?_
                refine pPt hg1 (.bool _) ?_
                cases hk; exact pE ⟨_, St.hav _ ⟨rfl, rfl, rfl, rfl, rfl, rfl, rfl, rfl, trivial⟩⟩
              · replace hk := cf hg1 ht
                refine pGy hg1 ?_
                refine pF tF266_2 ?_
                refine pGy hg1 ?_
                refine pLo hO 0 (.int _ _) tA3 ?_
                refine pGy hg1 ?_
                obtain ⟨v10, hv10, hk⟩ := bs hk
                refine pCall (fun _ => f330_run hv10) ?_
                refine pGy hg1 ?_
                refine pU ?_
                refine pPf hg1 (.bool _) ?_
                cases hk; exact pE ⟨_, St.hav _ ⟨rfl, rfl, rfl, rfl, rfl, rfl, rfl, rfl, trivial⟩⟩
            · rintro _ ⟨J, rfl⟩
              refine pM (.bool _) ?_
              obtain ⟨t11, ht, hk⟩ := bs hk
              refine wpR_mid (l1 := [_, _, _, _, _]) (fun S' => ∃ J, S' = ⟨hav [(1, .ptr b1 0), (2, .ptr b2 0), (3, .int .i64 x3), (4, .ptr b5 0), (28, .lit l1 aN0.Pieces.length ((flatL 0) aN0.Pieces)), (29, .int .i64 (aN0.Pieces.length : Int)), (30, .int .i64 x3), (56, .bool t11)] J, G⟩) ?_ ?_
              · refine bc (b := t9) (fun hg1 => ?_) (fun hg1 => ?_)
                · replace hk := ct hg1 ht
                  refine pGn hg1 ?_
                  refine pGn hg1 ?_
                  refine pGn hg1 ?_
                  refine pGn hg1 ?_
                  refine pPt hg1 (.bool _) ?_
                  cases hk; exact pE ⟨_, St.hav _ ⟨rfl, rfl, rfl, rfl, rfl, rfl, rfl, rfl, trivial⟩⟩
                · replace hk := cf hg1 ht
                  refine pGy hg1 ?_
                  refine pF tF266_3 ?_
                  refine pGy hg1 ?_
                  refine pLo hO 0 (.int _ _) tA3 ?_
                  refine pGy hg1 ?_
                  obtain ⟨v12, hv12, hk⟩ := bs hk
                  refine pCall (fun _ => f330_run hv12) ?_
                  refine pGy hg1 ?_
                  refine pU ?_
                  refine pPf hg1 (.bool _) ?_
                  cases hk; exact pE ⟨_, St.hav _ ⟨rfl, rfl, rfl, rfl, rfl, rfl, rfl, rfl, trivial⟩⟩
              · rintro _ ⟨J, rfl⟩
                refine pE (gn ?_)
                refine wpL_cd (b := t11) (fun hb => ?_) (fun hb => ?_)
                · replace hk := ct hb hk
                  refine wpL_sq (wpL_rg ?_)
                  refine pM (.int _ _) ?_
                  refine pBd [_, _] t077 tP77 ?_
                  refine pSt (xs := [_, _]) hO 1 tZ77 rfl (fun G hO => ?_)
                  refine pE (gn (wpL_rt (gr (br (gr (gr (br (gr ?_))))))))
                  replace hk := lx hx1 hk
                  replace hk := Option.some.inj hk; subst hk; exact finZ hO (fz_agg (n := 2) (fz_c (fz_int _ _) (fz_c (fz_int _ _) (fz_n)))) (resS hO 1 [_, _] tA77 tZ77 resN)
                · replace hk := cf hb hk
                  refine wpL_sk (gn (wpL_sq (wpL_rg ?_)))
                  refine pA (.int _ _) ?_
                  refine pE (gn (wpL_bl ?_))
                  refine wpL_loopO (F := f284_L2 aN0 x3 c4) (fun s S' => ∃ (J : Nat → V) (G : Heap), Owns H G [.blk b5 (.cells 4 [.str c4.Name, .int .i64 c4.Len, .int .i64 c4.Speed, .int .i64 c4.Brake]), .blk b2 (.cells 2 [.int .i64 0, .int .i64 0]), .blk b1 (.cells 2 [.lit l1 aN0.Pieces.length ((flatL 0) aN0.Pieces), .lit l2 aN0.Joints.length (flatL m3 aN0.Joints)])] ∧ S' = ⟨hav [(1, .ptr b1 0), (2, .ptr b2 0), (3, .int .i64 x3), (4, .ptr b5 0), (5, .int .i64 s), (28, .lit l1 aN0.Pieces.length ((flatL 0) aN0.Pieces)), (29, .int .i64 (aN0.Pieces.length : Int)), (30, .int .i64 x3)] J, G⟩) hk ⟨_, _, hO, St.hav _ ⟨rfl, rfl, rfl, rfl, rfl, rfl, rfl, rfl, trivial⟩⟩ ?_
                  rintro x13 _ y2 ⟨J, G, hO, rfl⟩ hk hx2
                  refine wpL_sq (wpL_sq (wpL_rg ?_))
                  refine pM (.int _ _) ?_
                  refine pM (.int _ _) ?_
                  refine pBi ?_
                  refine pE (gn ?_)
                  refine wpL_cd (b := decide (x13 < x3)) (fun hb => ?_) (fun hb => ?_)
                  · replace hk := ct hb hk
                    refine wpL_sk (gn (wpL_sq (wpL_bl (wpL_sq ?_))))
                    refine wpL_drw [(0, true), (1, true), (2, true), (3, true), (4, true), (5, true), (6, true), (7, true), (8, false)] [_, _, _, _, _, _, _, _, _] (by decide +kernel) (by rfl) ?_
                    refine pF tF132_0 ?_
                    refine pLo hO 2 (.lit _ _ _) tA129 ?_
                    refine pM (.int _ _) ?_
                    obtain ⟨c14, hc14, hk⟩ := bs hk
                    refine pX hc14 tE129 tZ266 ?_
                    refine pF tF266_0 ?_
                    refine pLp (.str _) (rd1 (lm := 0) (off := 0) hc14 tA9) ?_
                    refine pF tF266_0 ?_
                    refine pLo hO 0 (.str _) tA9 ?_
                    refine pB (a := .str _) (b := .str _) ?_
                    refine pE (gn ?_)
                    refine wpL_cd (b := (c14.Name.toList == c4.Name.toList)) (fun hb => ?_) (fun hb => ?_)
                    · replace hk := ct hb hk
                      refine wpL_sq (wpL_rg ?_)
                      refine pM (.int _ _) ?_
                      refine pBd [_, _] t077 tP77 ?_
                      refine pSt (xs := [_, _]) hO 1 tZ77 rfl (fun G hO => ?_)
                      refine pE (gn (wpL_rt (br (gr (gr (br (br (gr (gr (br (gr ?_)))))))))))
                      replace hk := lx hx2 hk
                      replace hk := lx hx1 hk
                      replace hk := Option.some.inj hk; subst hk; exact finZ hO (fz_agg (n := 2) (fz_c (fz_int _ _) (fz_c (fz_int _ _) (fz_n)))) (resS hO 1 [_, _] tA77 tZ77 resN)
                    · replace hk := cf hb hk
                      refine wpL_sk (bn (gn (wpL_rg ?_)))
                      refine pM (.int _ _) ?_
                      refine pBi ?_
                      refine pA (.int _ _) ?_
                      refine pE (gn ?_)
                      cases hk; exact ⟨_, rfl, _, _, hO, St.hav _ ⟨rfl, rfl, rfl, rfl, rfl, rfl, rfl, rfl, trivial⟩⟩
                  · replace hk := cf hb hk
                    refine wpL_ex (ge (ge (be (bn (gn ?_)))))
                    replace hk := lx hx2 hk
                    refine wpL_rg ?_
                    refine pBi ?_
                    refine pM (.int _ _) ?_
                    refine pE (gn ?_)
                    cases hk; exact ⟨_, rfl, _, _, (Owns.pick hO [1, 2] (by decide) rfl), St.hav _ ⟨rfl, rfl, rfl, rfl, rfl, trivial⟩⟩
        · replace hk := cf hb hk
          refine wpL_ex (ge (ge (be (gn ?_))))
          replace hk := lx hx1 hk
          refine wpL_sq (wpL_sq (wpL_rg ?_))
          refine pA (.int _ _) ?_
          refine pE (gn (wpL_bl ?_))
          refine wpL_loopO (F := f284_L3 aN0) (fun s S' => ∃ (J : Nat → V) (G : Heap), Owns H G [.blk b2 (.cells 2 [.int .i64 0, .int .i64 0]), .blk b1 (.cells 2 [.lit l1 aN0.Pieces.length ((flatL 0) aN0.Pieces), .lit l2 aN0.Joints.length (flatL m3 aN0.Joints)])] ∧ S' = ⟨hav [(1, .ptr b1 0), (2, .ptr b2 0), (6, .int .i64 s)] J, G⟩) hk ⟨_, _, hO, St.hav _ ⟨rfl, rfl, rfl, trivial⟩⟩ ?_
          rintro x15 _ y1 ⟨J, G, hO, rfl⟩ hk hx1
          refine wpL_sq (wpL_sq (wpL_rg ?_))
          refine pM (.int _ _) ?_
          refine pBi ?_
          refine pE (gn ?_)
          refine wpL_cd (b := decide (x15 ≤ (4:Int))) (fun hb => ?_) (fun hb => ?_)
          · replace hk := ct hb hk
            refine wpL_sk (gn (wpL_sq (wpL_bl (wpL_sq (wpL_rg ?_)))))
            refine pF tF132_1 ?_
            refine pLo hO 1 (.lit _ _ _) tA130 ?_
            refine pLen tS130 ?_
            refine pM (.int _ _) ?_
            refine pE (gn (wpL_bl ?_))
            refine wpL_loopO (F := f284_L4 aN0 x15) (fun s S' => ∃ (J : Nat → V) (G : Heap), Owns H G [.blk b2 (.cells 2 [.int .i64 0, .int .i64 0]), .blk b1 (.cells 2 [.lit l1 aN0.Pieces.length ((flatL 0) aN0.Pieces), .lit l2 aN0.Joints.length (flatL m3 aN0.Joints)])] ∧ S' = ⟨hav [(1, .ptr b1 0), (2, .ptr b2 0), (6, .int .i64 x15), (82, .int .i64 (aN0.Joints.length : Int)), (83, .int .i64 s)] J, G⟩) hk ⟨_, _, hO, St.hav _ ⟨rfl, rfl, rfl, rfl, rfl, trivial⟩⟩ ?_
            rintro x16 _ y2 ⟨J, G, hO, rfl⟩ hk hx2
            refine wpL_sq (wpL_rg ?_)
            refine pBi ?_
            refine pE (gn (wpL_sq ?_))
            refine wpL_cd (b := decide (x16 < (aN0.Joints.length : Int))) (fun hb => ?_) (fun hb => ?_)
            · replace hk := ct hb hk
              refine wpL_sk (gn (wpL_sq (wpL_bl (wpL_sq (wpL_rg ?_)))))
              refine pM (.int _ _) ?_
              refine pA (.int _ _) ?_
              refine pE (gn (wpL_sq (wpL_rg ?_)))
              refine pLs hO 1 [_, _] tA132 tZ132 ?_
              refine pM (.int _ _) ?_
              obtain ⟨v17, hv17, hk⟩ := bs hk
              refine pCall (fun _ => f331_run hv17) ?_
              refine pM (.int _ _) ?_
              refine pBi ?_
              refine pE (gn ?_)
              refine wpL_cd (b := (v17 == x15)) (fun hb => ?_) (fun hb => ?_)
              · replace hk := ct hb hk
                refine wpL_sq (wpL_rg ?_)
                refine pM (.int _ _) ?_
                refine pM (.int _ _) ?_
                refine pBd [_, _] t077 tP77 ?_
                refine pSt (xs := [_, _]) hO 0 tZ77 rfl (fun G hO => ?_)
                refine pE (gn (wpL_rt (br (gr (gr (br (br (gr (gr (br (gr ?_)))))))))))
                replace hk := lx hx2 hk
                replace hk := lx hx1 hk
                replace hk := Option.some.inj hk; subst hk; exact finZ hO (fz_agg (n := 2) (fz_c (fz_int _ _) (fz_c (fz_int _ _) (fz_n)))) (resS hO 0 [_, _] tA77 tZ77 resN)
              · replace hk := cf hb hk
                refine wpL_sk (bn (gn (wpL_rg ?_)))
                refine pBi ?_
                refine pM (.int _ _) ?_
                refine pE (gn ?_)
                cases hk; exact ⟨_, rfl, _, _, hO, St.hav _ ⟨rfl, rfl, rfl, rfl, rfl, trivial⟩⟩
            · replace hk := cf hb hk
              refine wpL_ex (ge (ge (be (bn (gn ?_)))))
              replace hk := lx hx2 hk
              refine wpL_rg ?_
              refine pM (.int _ _) ?_
              refine pBi ?_
              refine pA (.int _ _) ?_
              refine pE (gn ?_)
              cases hk; exact ⟨_, rfl, _, _, hO, St.hav _ ⟨rfl, rfl, rfl, trivial⟩⟩
          · replace hk := cf hb hk
            refine wpL_ex (ge (ge (be (gn ?_))))
            replace hk := lx hx1 hk
            refine wpL_sq (wpL_sq (wpL_rg ?_))
            refine pF tF132_0 ?_
            refine pLo hO 1 (.lit _ _ _) tA129 ?_
            refine pLen tS129 ?_
            refine pM (.int _ _) ?_
            refine pE (gn (wpL_bl ?_))
            refine wpL_loopO (F := f284_L5 aN0) (fun s S' => ∃ (J : Nat → V) (G : Heap), Owns H G [.blk b2 (.cells 2 [.int .i64 0, .int .i64 0]), .blk b1 (.cells 2 [.lit l1 aN0.Pieces.length ((flatL 0) aN0.Pieces), .lit l2 aN0.Joints.length (flatL m3 aN0.Joints)])] ∧ S' = ⟨hav [(1, .ptr b1 0), (2, .ptr b2 0), (97, .int .i64 (aN0.Pieces.length : Int)), (98, .int .i64 s)] J, G⟩) hk ⟨_, _, hO, St.hav _ ⟨rfl, rfl, rfl, rfl, trivial⟩⟩ ?_
            rintro x18 _ y1 ⟨J, G, hO, rfl⟩ hk hx1
            refine wpL_sq (wpL_rg ?_)
            refine pBi ?_
            refine pE (gn (wpL_sq ?_))
            refine wpL_cd (b := decide (x18 < (aN0.Pieces.length : Int))) (fun hb => ?_) (fun hb => ?_)
            · replace hk := ct hb hk
              refine wpL_sk (gn (wpL_sq (wpL_bl (wpL_sq (wpL_rg ?_)))))
              refine pM (.int _ _) ?_
              refine pA (.int _ _) ?_
              refine pE (gn (wpL_sq (wpL_rg ?_)))
              refine pA (.int _ _) ?_
              refine pE (gn (wpL_bl ?_))
              refine wpL_loopO (F := f284_L6 aN0 x18) (fun s S' => ∃ (J : Nat → V) (G : Heap), Owns H G [.blk b2 (.cells 2 [.int .i64 0, .int .i64 0]), .blk b1 (.cells 2 [.lit l1 aN0.Pieces.length ((flatL 0) aN0.Pieces), .lit l2 aN0.Joints.length (flatL m3 aN0.Joints)])] ∧ S' = ⟨hav [(1, .ptr b1 0), (2, .ptr b2 0), (8, .int .i64 x18), (9, .int .i64 s), (97, .int .i64 (aN0.Pieces.length : Int)), (98, .int .i64 x18)] J, G⟩) hk ⟨_, _, hO, St.hav _ ⟨rfl, rfl, rfl, rfl, rfl, rfl, trivial⟩⟩ ?_
              rintro x19 _ y2 ⟨J, G, hO, rfl⟩ hk hx2
              refine wpL_sq (wpL_sq (wpL_rg ?_))
              refine pM (.int _ _) ?_
              refine pBi ?_
              refine pE (gn ?_)
              refine wpL_cd (b := decide (x19 < (2:Int))) (fun hb => ?_) (fun hb => ?_)
              · replace hk := ct hb hk
                refine wpL_sk (gn (wpL_sq (wpL_bl (wpL_sq (wpL_rg ?_)))))
                refine pLs hO 1 [_, _] tA132 tZ132 ?_
                refine pM (.int _ _) ?_
                refine pM (.int _ _) ?_
                refine pBd [_, _] t0260 tP260 ?_
                obtain ⟨v20, hv20, hk⟩ := bs hk
                refine pCall (fun _ => f332_run hv20) ?_
                refine pBi ?_
                refine pE (gn ?_)
                refine wpL_cd (b := (v20 != (1:Int))) (fun hb => ?_) (fun hb => ?_)
                · replace hk := ct hb hk
                  refine wpL_sq (wpL_rg ?_)
                  refine pM (.int _ _) ?_
                  refine pBd [_, _] t077 tP77 ?_
                  refine pSt (xs := [_, _]) hO 0 tZ77 rfl (fun G hO => ?_)
                  refine pE (gn (wpL_rt (br (gr (gr (br (br (gr (gr (br (gr ?_)))))))))))
                  replace hk := lx hx2 hk
                  replace hk := lx hx1 hk
                  replace hk := Option.some.inj hk; subst hk; exact finZ hO (fz_agg (n := 2) (fz_c (fz_int _ _) (fz_c (fz_int _ _) (fz_n)))) (resS hO 0 [_, _] tA77 tZ77 resN)
                · replace hk := cf hb hk
                  refine wpL_sk (bn (gn (wpL_rg ?_)))
                  refine pM (.int _ _) ?_
                  refine pBi ?_
                  refine pA (.int _ _) ?_
                  refine pE (gn ?_)
                  cases hk; exact ⟨_, rfl, _, _, hO, St.hav _ ⟨rfl, rfl, rfl, rfl, rfl, rfl, trivial⟩⟩
              · replace hk := cf hb hk
                refine wpL_ex (ge (ge (be (bn (gn ?_)))))
                replace hk := lx hx2 hk
                refine wpL_rg ?_
                refine pBi ?_
                refine pM (.int _ _) ?_
                refine pE (gn ?_)
                cases hk; exact ⟨_, rfl, _, _, hO, St.hav _ ⟨rfl, rfl, rfl, rfl, trivial⟩⟩
            · replace hk := cf hb hk
              refine wpL_ex (ge (ge (be (gn ?_))))
              replace hk := lx hx1 hk
              refine wpL_sq (wpL_rg ?_)
              refine pBd [_, _] t077 tP77 ?_
              refine pSt (xs := [_, _]) hO 0 tZ77 rfl (fun G hO => ?_)
              refine pE (gn (wpL_rt ?_))
              replace hk := Option.some.inj hk; subst hk; exact finZ hO (fz_agg (n := 2) (fz_c (fz_int _ _) (fz_c (fz_int _ _) (fz_n)))) (resS hO 0 [_, _] tA77 tZ77 resN)
/-- spec.l22ok -/
def f195 (aN0 : Net) : Option Bool :=
  ((f284 aN0).bind fun v2 => some (v2.Code == (0:Int)))
theorem f195_run {aN0 : Net} {r : Bool} {l1 l2 m3 : Nat} {H : Heap} {lk : Lk} (hk : f195 aN0 = some r) (hlk : 0 < lk.length := by simp) : runL Try.prog hh 195 [.agg [.lit l1 aN0.Pieces.length ((flatL 0) aN0.Pieces), .lit l2 aN0.Joints.length (flatL m3 aN0.Joints)]] H lk = some (.bool r, H) := by
  refine run_start Try.func195 rfl Try.ntmps195 Try.results195 rfl rfl fun hO => ?_
  unfold f195 at hk
  refine wpL_sq (wpL_rg ?_)
  refine pBox (cs := [_, _]) hO tZ132 (fun b1 G hO => ?_)
  refine pA (.bool _) ?_
  refine pE (gn (wpL_sq (wpL_rg ?_)))
  refine pLs hO 0 [_, _] tA132 tZ132 ?_
  obtain ⟨v2, hv2, hk⟩ := bs hk
  refine pCall (fun _ => f284_run hv2) ?_
  refine pNew hO tZ77 t077 (fun b3 G hO => ?_)
  refine pSt (xs := [_, _]) hO 0 tZ77 rfl (fun G hO => ?_)
  refine pE (gn (wpL_sq (wpL_rg ?_)))
  refine pF tF77_0 ?_
  refine pLo hO 0 (.int _ _) tA3 ?_
  refine pBi ?_
  refine pA (.bool _) ?_
  refine pE (gn (wpL_rt ?_))
  replace hk := Option.some.inj hk; subst hk; exact fin0 hO
/-- spec.l22in -/
def f221 (aX0 : Int) (aA1 : Int) (aB2 : Int) : Option Bool :=
  some (decide (aX0 ≥ aA1) && decide (aX0 ≤ aB2))
theorem f221_run {aX0 : Int} {aA1 : Int} {aB2 : Int} {r : Bool} {H : Heap} {lk : Lk} (hk : f221 aX0 aA1 aB2 = some r) (hlk : 0 < lk.length := by simp) : runL Try.prog hh 221 [.int .i64 aX0, .int .i64 aA1, .int .i64 aB2] H lk = some (.bool r, H) := by
  refine run_start Try.func221 rfl Try.ntmps221 Try.results221 rfl rfl fun hO => ?_
  unfold f221 at hk
  refine wpL_sq (wpL_rg ?_)
  refine pA (.bool _) ?_
  refine pE (gn (wpL_sq (wpL_rg ?_)))
  refine pM (.int _ _) ?_
  refine pM (.int _ _) ?_
  refine pBi ?_
  refine pM (.bool _) ?_
  refine wpR_mid (l1 := [_, _, _, _]) (fun S' => ∃ J, S' = ⟨hav [(14, .bool (decide (aX0 ≥ aA1) && decide (aX0 ≤ aB2)))] J, H⟩) ?_ ?_
  · refine bc (b := decide (aX0 ≥ aA1)) (fun hg1 => ?_) (fun hg1 => ?_)
    · refine pGy hg1 ?_
      refine pM (.int _ _) ?_
      refine pGy hg1 ?_
      refine pM (.int _ _) ?_
      refine pGy hg1 ?_
      refine pBi ?_
      refine pPt hg1 (.bool _) ?_
      exact pE ⟨_, St.hav _ ⟨by rw [hg1]; rfl, trivial⟩⟩
    · refine pGn hg1 ?_
      refine pGn hg1 ?_
      refine pGn hg1 ?_
      refine pPf hg1 (.bool _) ?_
      exact pE ⟨_, St.hav _ ⟨by rw [hg1]; rfl, trivial⟩⟩
  · rintro _ ⟨J, rfl⟩
    refine pA (.bool _) ?_
    refine pE (gn (wpL_rt ?_))
    replace hk := Option.some.inj hk; subst hk; exact fin0 hO
/-- spec.l23spot -/
def f220 (aN0 : Net) (aS1 : Spot) : Option Bool :=
  ((f221 aS1.Piece (0:Int) (w64 ((aN0.Pieces.length : Int) - (1:Int)))).bind fun v3 => ((bif (v3 && ((aS1.Way == (1:Int)) || (aS1.Way == (-1:Int)))) then ((getI aN0.Pieces aS1.Piece).bind fun c5 => ((f221 aS1.At (0:Int) c5.Len).bind fun v6 => some v6)) else some false).bind fun t4 => some t4))
theorem f220_run {aN0 : Net} {aS1 : Spot} {r : Bool} {l1 l2 m3 : Nat} {H : Heap} {lk : Lk} (hk : f220 aN0 aS1 = some r) (hlk : 0 < lk.length := by simp) : runL Try.prog hh 220 [.agg [.lit l1 aN0.Pieces.length ((flatL 0) aN0.Pieces), .lit l2 aN0.Joints.length (flatL m3 aN0.Joints)], .agg [.int .i64 aS1.Piece, .int .i64 aS1.At, .int .i64 aS1.Way]] H lk = some (.bool r, H) := by
  refine run_start Try.func220 rfl Try.ntmps220 Try.results220 rfl rfl fun hO => ?_
  unfold f220 at hk
  refine wpL_sq (wpL_rg ?_)
  refine pBox (cs := [_, _]) hO tZ132 (fun b1 G hO => ?_)
  refine pBox (cs := [_, _, _]) hO tZ134 (fun b2 G hO => ?_)
  refine pA (.bool _) ?_
  refine pE (gn (wpL_sq ?_))
  refine wpL_drw [(0, true), (1, true), (2, true), (3, true), (4, true), (5, true), (6, false), (7, false), (8, false), (9, true), (10, false), (11, false), (12, false), (13, true), (14, false), (15, false), (16, false), (17, false), (18, true), (19, true), (20, true), (21, true), (22, true), (23, true), (24, true), (25, true), (26, true), (27, false), (28, false), (29, false)] [_, _, _, _, _, _, _, _, _, _, _, _, _, _, _, _, _, _, _, _, _, _, _, _, _, _, _, _, _, _] (by decide +kernel) (by rfl) ?_
  refine pF tF134_0 ?_
  refine pLo hO 0 (.int _ _) tA3 ?_
  refine pF tF132_0 ?_
  refine pLo hO 1 (.lit _ _ _) tA129 ?_
  refine pLen tS129 ?_
  refine pBi ?_
  obtain ⟨v3, hv3, hk⟩ := bs hk
  refine pCall (fun _ => f221_run hv3) ?_
  refine pM (.bool _) ?_
  refine wpR_mid (l1 := [_, _, _, _, _, _, _, _, _]) (fun S' => ∃ J, S' = ⟨hav [(2, .ptr b1 0), (3, .ptr b2 0), (21, .bool (v3 && ((aS1.Way == (1:Int)) || (aS1.Way == (-1:Int)))))] J, G⟩) ?_ ?_
  · refine bc (b := v3) (fun hg1 => ?_) (fun hg1 => ?_)
    · refine pGy hg1 ?_
      refine pF tF134_2 ?_
      refine pGy hg1 ?_
      refine pLo hO 0 (.int _ _) tA3 ?_
      refine pGy hg1 ?_
      refine pBi ?_
      refine pGy hg1 ?_
      refine pM (.bool _) ?_
      refine wpR_mid (l1 := [_, _, _, _]) (fun S' => ∃ J, S' = ⟨hav [(2, .ptr b1 0), (3, .ptr b2 0), (12, .bool v3), (20, .bool ((aS1.Way == (1:Int)) || (aS1.Way == (-1:Int))))] J, G⟩) ?_ ?_
      · refine bc (b := (aS1.Way == (1:Int))) (fun hg2 => ?_) (fun hg2 => ?_)
        · refine pGn hg2 ?_
          refine pGn hg2 ?_
          refine pGn hg2 ?_
          refine pGy hg1 ?_
          refine pPt hg2 (.bool _) ?_
          exact pE ⟨_, St.hav _ ⟨rfl, rfl, rfl, by rw [hg2]; rfl, trivial⟩⟩
        · refine pGy hg2 ?_
          refine pF tF134_2 ?_
          refine pGy hg2 ?_
          refine pLo hO 0 (.int _ _) tA3 ?_
          refine pGy hg2 ?_
          refine pBi ?_
          refine pGy hg1 ?_
          refine pPf hg2 (.bool _) ?_
          exact pE ⟨_, St.hav _ ⟨rfl, rfl, rfl, by rw [hg2]; rfl, trivial⟩⟩
      · rintro _ ⟨J, rfl⟩
        refine pPt hg1 (.bool _) ?_
        exact pE ⟨_, St.hav _ ⟨rfl, rfl, by rw [hg1]; rfl, trivial⟩⟩
    · refine pGn hg1 ?_
      refine pGn hg1 ?_
      refine pGn hg1 ?_
      refine pGn hg1 ?_
      refine pGu ?_
      refine pGu ?_
      refine pGu ?_
      refine pGn hg1 ?_
      refine pPf hg1 (.bool _) ?_
      exact pE ⟨_, St.hav _ ⟨rfl, rfl, by rw [hg1]; rfl, trivial⟩⟩
  · rintro _ ⟨J, rfl⟩
    refine pM (.bool _) ?_
    obtain ⟨t4, ht, hk⟩ := bs hk
    refine wpR_mid (l1 := [_, _, _, _, _, _, _, _, _, _, _]) (fun S' => ∃ J, S' = ⟨hav [(33, .bool t4)] J, G⟩) ?_ ?_
    · refine bc (b := (v3 && ((aS1.Way == (1:Int)) || (aS1.Way == (-1:Int))))) (fun hg1 => ?_) (fun hg1 => ?_)
      · replace hk := ct hg1 ht
        refine pGy hg1 ?_
        refine pF tF134_1 ?_
        refine pGy hg1 ?_
        refine pLo hO 0 (.int _ _) tA3 ?_
        refine pGy hg1 ?_
        refine pF tF132_0 ?_
        refine pGy hg1 ?_
        refine pLo hO 1 (.lit _ _ _) tA129 ?_
        refine pGy hg1 ?_
        refine pF tF134_0 ?_
        refine pGy hg1 ?_
        refine pLo hO 0 (.int _ _) tA3 ?_
        refine pGy hg1 ?_
        obtain ⟨c5, hc5, hk⟩ := bs hk
        refine pX hc5 tE129 tZ266 ?_
        refine pGy hg1 ?_
        refine pF tF266_1 ?_
        refine pGy hg1 ?_
        refine pLp (.int _ _) (rd1 (lm := 0) (off := 1) hc5 tA3) ?_
        refine pGy hg1 ?_
        obtain ⟨v6, hv6, hk⟩ := bs hk
        refine pCall (fun _ => f221_run hv6) ?_
        refine pPt hg1 (.bool _) ?_
        cases hk; exact pE ⟨_, St.hav _ ⟨rfl, trivial⟩⟩
      · replace hk := cf hg1 ht
        refine pGn hg1 ?_
        refine pGn hg1 ?_
        refine pGn hg1 ?_
        refine pGn hg1 ?_
        refine pGn hg1 ?_
        refine pGn hg1 ?_
        refine pGn hg1 ?_
        refine pGn hg1 ?_
        refine pGn hg1 ?_
        refine pGn hg1 ?_
        refine pPf hg1 (.bool _) ?_
        cases hk; exact pE ⟨_, St.hav _ ⟨rfl, trivial⟩⟩
    · rintro _ ⟨J, rfl⟩
      refine pA (.bool _) ?_
      refine pE (gn (wpL_rt ?_))
      replace hk := Option.some.inj hk; subst hk; exact fin0 hO
/-- spec.l23room -/
def f305 (aN0 : Net) (aS1 : Spot) : Option Int :=
  (bif (aS1.Way == (1:Int)) then ((getI aN0.Pieces aS1.Piece).bind fun c3 => some (w64 (c3.Len - aS1.At))) else some aS1.At)
theorem f305_run {aN0 : Net} {aS1 : Spot} {r : Int} {l1 l2 m3 : Nat} {H : Heap} {lk : Lk} (hk : f305 aN0 aS1 = some r) (hlk : 0 < lk.length := by simp) : runL Try.prog hh 305 [.agg [.lit l1 aN0.Pieces.length ((flatL 0) aN0.Pieces), .lit l2 aN0.Joints.length (flatL m3 aN0.Joints)], .agg [.int .i64 aS1.Piece, .int .i64 aS1.At, .int .i64 aS1.Way]] H lk = some (.int .i64 r, H) := by
  refine run_start Try.func305 rfl Try.ntmps305 Try.results305 rfl rfl fun hO => ?_
  unfold f305 at hk
  refine wpL_sq (wpL_rg ?_)
  refine pBox (cs := [_, _]) hO tZ132 (fun b1 G hO => ?_)
  refine pBox (cs := [_, _, _]) hO tZ134 (fun b2 G hO => ?_)
  refine pA (.int _ _) ?_
  refine pE (gn (wpL_sq (wpL_sq (wpL_rg ?_))))
  refine pF tF134_2 ?_
  refine pLo hO 0 (.int _ _) tA3 ?_
  refine pBi ?_
  refine pE (gn ?_)
  refine wpL_cd (b := (aS1.Way == (1:Int))) (fun hb => ?_) (fun hb => ?_)
  · replace hk := ct hb hk
    refine wpL_sq ?_
    refine wpL_drw [(0, true), (1, true), (2, true), (3, true), (4, true), (5, true), (6, true), (7, true), (8, true), (9, false), (10, false)] [_, _, _, _, _, _, _, _, _, _, _] (by decide +kernel) (by rfl) ?_
    refine pF tF132_0 ?_
    refine pLo hO 1 (.lit _ _ _) tA129 ?_
    refine pF tF134_0 ?_
    refine pLo hO 0 (.int _ _) tA3 ?_
    obtain ⟨c3, hc3, hk⟩ := bs hk
    refine pX hc3 tE129 tZ266 ?_
    refine pF tF266_1 ?_
    refine pLp (.int _ _) (rd1 (lm := 0) (off := 1) hc3 tA3) ?_
    refine pF tF134_1 ?_
    refine pLo hO 0 (.int _ _) tA3 ?_
    refine pBi ?_
    refine pA (.int _ _) ?_
    refine pE (gn (wpL_rt (gr ?_)))
    replace hk := Option.some.inj hk; subst hk; exact fin0 hO
  · replace hk := cf hb hk
    refine wpL_sk (gn (wpL_sq (wpL_rg ?_)))
    refine pF tF134_1 ?_
    refine pLo hO 0 (.int _ _) tA3 ?_
    refine pA (.int _ _) ?_
    refine pE (gn (wpL_rt ?_))
    replace hk := Option.some.inj hk; subst hk; exact fin0 hO
/-- spec.l23behind -/
def f222 (aN0 : Net) (aS1 : Spot) : Option Int :=
  ((getI aN0.Pieces aS1.Piece).bind fun c3 => ((f305 aN0 aS1).bind fun v4 => some (w64 (c3.Len - v4))))
theorem f222_run {aN0 : Net} {aS1 : Spot} {r : Int} {l1 l2 m3 : Nat} {H : Heap} {lk : Lk} (hk : f222 aN0 aS1 = some r) (hlk : 0 < lk.length := by simp) : runL Try.prog hh 222 [.agg [.lit l1 aN0.Pieces.length ((flatL 0) aN0.Pieces), .lit l2 aN0.Joints.length (flatL m3 aN0.Joints)], .agg [.int .i64 aS1.Piece, .int .i64 aS1.At, .int .i64 aS1.Way]] H lk = some (.int .i64 r, H) := by
  refine run_start Try.func222 rfl Try.ntmps222 Try.results222 rfl rfl fun hO => ?_
  unfold f222 at hk
  refine wpL_sq (wpL_rg ?_)
  refine pBox (cs := [_, _]) hO tZ132 (fun b1 G hO => ?_)
  refine pBox (cs := [_, _, _]) hO tZ134 (fun b2 G hO => ?_)
  refine pA (.int _ _) ?_
  refine pE (gn (wpL_sq ?_))
  refine wpL_drw [(0, true), (1, true), (2, true), (3, true), (4, true), (5, true), (6, true), (7, true), (8, true), (9, true), (10, false), (11, false)] [_, _, _, _, _, _, _, _, _, _, _, _] (by decide +kernel) (by rfl) ?_
  refine pF tF132_0 ?_
  refine pLo hO 1 (.lit _ _ _) tA129 ?_
  refine pF tF134_0 ?_
  refine pLo hO 0 (.int _ _) tA3 ?_
  obtain ⟨c3, hc3, hk⟩ := bs hk
  refine pX hc3 tE129 tZ266 ?_
  refine pF tF266_1 ?_
  refine pLp (.int _ _) (rd1 (lm := 0) (off := 1) hc3 tA3) ?_
  refine pLs hO 1 [_, _] tA132 tZ132 ?_
  refine pLs hO 0 [_, _, _] tA134 tZ134 ?_
  obtain ⟨v4, hv4, hk⟩ := bs hk
  refine pCall (fun _ => f305_run hv4) ?_
  refine pBi ?_
  refine pA (.int _ _) ?_
  refine pE (gn (wpL_rt ?_))
  replace hk := Option.some.inj hk; subst hk; exact fin0 hO
/-- spec.l23head -/
def f224 (aPiece0 : Int) (aWay1 : Int) : Option End :=
  (bif (aWay1 == (1:Int)) then some ({ Piece := aPiece0, Side := (1:Int) } : End) else some ({ Piece := aPiece0, Side := 0 } : End))
theorem f224_run {aPiece0 : Int} {aWay1 : Int} {r : End} {H : Heap} {lk : Lk} (hk : f224 aPiece0 aWay1 = some r) (hlk : 0 < lk.length := by simp) : runL Try.prog hh 224 [.int .i64 aPiece0, .int .i64 aWay1] H lk = some (.agg [.int .i64 r.Piece, .int .i64 r.Side], H) := by
  refine run_start Try.func224 rfl Try.ntmps224 Try.results224 rfl rfl fun hO => ?_
  unfold f224 at hk
  refine wpL_sq (wpL_rg ?_)
  refine pNew hO tZ260 t0260 (fun b1 G hO => ?_)
  refine pE (gn (wpL_sq (wpL_sq (wpL_rg ?_))))
  refine pM (.int _ _) ?_
  refine pBi ?_
  refine pE (gn ?_)
  refine wpL_cd (b := (aWay1 == (1:Int))) (fun hb => ?_) (fun hb => ?_)
  · replace hk := ct hb hk
    refine wpL_sq (wpL_rg ?_)
    refine pM (.int _ _) ?_
    refine pBd [_, _] t0260 tP260 ?_
    refine pSt (xs := [_, _]) hO 0 tZ260 rfl (fun G hO => ?_)
    refine pE (gn (wpL_rt (gr ?_)))
    replace hk := Option.some.inj hk; subst hk; exact finZ hO (fz_agg (n := 2) (fz_c (fz_int _ _) (fz_c (fz_int _ _) (fz_n)))) (resS hO 0 [_, _] tA260 tZ260 resN)
  · replace hk := cf hb hk
    refine wpL_sk (gn (wpL_sq (wpL_rg ?_)))
    refine pM (.int _ _) ?_
    refine pBd [_, _] t0260 tP260 ?_
    refine pSt (xs := [_, _]) hO 0 tZ260 rfl (fun G hO => ?_)
    refine pE (gn (wpL_rt ?_))
    replace hk := Option.some.inj hk; subst hk; exact finZ hO (fz_agg (n := 2) (fz_c (fz_int _ _) (fz_c (fz_int _ _) (fz_n)))) (resS hO 0 [_, _] tA260 tZ260 resN)
/-- spec.l22at -/
def f306_L2 (aE1 : End) (x3 : Int) (c4 : Joint) : Int → Option (Int ⊕ (Int ⊕ (Int × Int))) := fun s =>
  (bif decide (s < (c4.Ends.length : Int)) then ((getI c4.Ends s).bind fun c7 => (bif ((c7.Piece == aE1.Piece) && ((c7.Side == aE1.Side) && true)) then (((some (x3, s)).map Sum.inr).map Sum.inr) else some (.inl (w64 (s + (1:Int)))))) else ((some (.inl (w64 (x3 + (1:Int))))).map Sum.inr))
def f306_L1 (aN0 : Net) (aE1 : End) : Int → Option (Int ⊕ (Int × Int)) := fun s =>
  (bif decide (s < (aN0.Joints.length : Int)) then ((getI aN0.Joints s).bind fun c4 => (loopO (f306_L2 aE1 s c4) ((0:Int)))) else ((some ((-1:Int), (-1:Int))).map Sum.inr))
def f306 (aN0 : Net) (aE1 : End) : Option (Int × Int) :=
  (loopO (f306_L1 aN0 aE1) ((0:Int)))
theorem f306_run {aN0 : Net} {aE1 : End} {r : (Int × Int)} {l1 l2 m3 : Nat} {H : Heap} {lk : Lk} (hk : f306 aN0 aE1 = some r) (hlk : 0 < lk.length := by simp) : runL Try.prog hh 306 [.agg [.lit l1 aN0.Pieces.length ((flatL 0) aN0.Pieces), .lit l2 aN0.Joints.length (flatL m3 aN0.Joints)], .agg [.int .i64 aE1.Piece, .int .i64 aE1.Side]] H lk = some (.tup [.int .i64 r.1, .int .i64 r.2], H) := by
  refine run_start Try.func306 rfl Try.ntmps306 Try.results306 rfl rfl fun hO => ?_
  unfold f306 at hk
  refine wpL_sq (wpL_rg ?_)
  refine pBox (cs := [_, _]) hO tZ132 (fun b1 G hO => ?_)
  refine pBox (cs := [_, _]) hO tZ260 (fun b2 G hO => ?_)
  refine pA (.int _ _) ?_
  refine pA (.int _ _) ?_
  refine pE (gn (wpL_sq (wpL_sq (wpL_rg ?_))))
  refine pF tF132_1 ?_
  refine pLo hO 1 (.lit _ _ _) tA130 ?_
  refine pLen tS130 ?_
  refine pM (.int _ _) ?_
  refine pE (gn (wpL_bl ?_))
  refine wpL_loopO (F := f306_L1 aN0 aE1) (fun s S' => ∃ (J : Nat → V) (G : Heap), Owns H G [.blk b2 (.cells 2 [.int .i64 aE1.Piece, .int .i64 aE1.Side])] ∧ S' = ⟨hav [(3, .ptr b2 0), (11, .lit l2 aN0.Joints.length (flatL m3 aN0.Joints)), (12, .int .i64 (aN0.Joints.length : Int)), (13, .int .i64 s)] J, G⟩) hk ⟨_, _, (Owns.pick hO [0] (by decide) rfl), St.hav _ ⟨rfl, rfl, rfl, rfl, trivial⟩⟩ ?_
  rintro x3 _ y1 ⟨J, G, hO, rfl⟩ hk hx1
  refine wpL_sq (wpL_rg ?_)
  refine pBi ?_
  refine pE (gn (wpL_sq ?_))
  refine wpL_cd (b := decide (x3 < (aN0.Joints.length : Int))) (fun hb => ?_) (fun hb => ?_)
  · replace hk := ct hb hk
    refine wpL_sk (gn (wpL_sq (wpL_bl (wpL_sq (wpL_rg ?_)))))
    refine pM (.int _ _) ?_
    obtain ⟨c4, hc4, hk⟩ := bs hk
    refine pX hc4 tE130 tZ332 ?_
    refine pLp (.agg [_, _, _]) (rd2 (lm := m3) (off := 0) hc4 tA332 tZ332) ?_
    refine pNew hO tZ332 t0332 (fun b5 G hO => ?_)
    refine pA (.int _ _) ?_
    refine pSt (xs := [_, _, _]) hO 0 tZ332 rfl (fun G hO => ?_)
    refine pE (gn (wpL_sq (wpL_rg ?_)))
    refine pF tF332_2 ?_
    refine pLo hO 0 (.lit _ _ _) tA330 ?_
    refine pLen tS330 ?_
    refine pM (.int _ _) ?_
    refine pE (gn (wpL_bl ?_))
    refine wpL_loopO (F := f306_L2 aE1 x3 c4) (fun s S' => ∃ (J : Nat → V) (G : Heap), Owns H G [.blk b2 (.cells 2 [.int .i64 aE1.Piece, .int .i64 aE1.Side])] ∧ S' = ⟨hav [(3, .ptr b2 0), (6, .int .i64 x3), (11, .lit l2 aN0.Joints.length (flatL m3 aN0.Joints)), (12, .int .i64 (aN0.Joints.length : Int)), (13, .int .i64 x3), (19, .lit m3 c4.Ends.length ((flatL 0) c4.Ends)), (20, .int .i64 (c4.Ends.length : Int)), (21, .int .i64 s)] J, G⟩) hk ⟨_, _, (Owns.pick hO [1] (by decide) rfl), St.hav _ ⟨rfl, rfl, rfl, rfl, rfl, rfl, rfl, rfl, trivial⟩⟩ ?_
    rintro x6 _ y2 ⟨J, G, hO, rfl⟩ hk hx2
    refine wpL_sq (wpL_rg ?_)
    refine pBi ?_
    refine pE (gn (wpL_sq ?_))
    refine wpL_cd (b := decide (x6 < (c4.Ends.length : Int))) (fun hb => ?_) (fun hb => ?_)
    · replace hk := ct hb hk
      refine wpL_sk (gn (wpL_sq (wpL_bl (wpL_sq (wpL_rg ?_)))))
      refine pM (.int _ _) ?_
      obtain ⟨c7, hc7, hk⟩ := bs hk
      refine pX hc7 tE330 tZ260 ?_
      refine pLp (.agg [_, _]) (rd2 (lm := 0) (off := 0) hc7 tA260 tZ260) ?_
      refine pNew hO tZ260 t0260 (fun b8 G hO => ?_)
      refine pA (.int _ _) ?_
      refine pSt (xs := [_, _]) hO 0 tZ260 rfl (fun G hO => ?_)
      refine pE (gn (wpL_sq (wpL_rg ?_)))
      refine pLs hO 0 [_, _] tA260 tZ260 ?_
      refine pLs hO 1 [_, _] tA260 tZ260 ?_
      refine pGq tG260 (eqc (eqi _ _ _) (eqc (eqi _ _ _) (rfl))) ?_
      refine pE (gn ?_)
      refine wpL_cd (b := ((c7.Piece == aE1.Piece) && ((c7.Side == aE1.Side) && true))) (fun hb => ?_) (fun hb => ?_)
      · replace hk := ct hb hk
        refine wpL_sq (wpL_rg ?_)
        refine pM (.int _ _) ?_
        refine pM (.int _ _) ?_
        refine pA (.int _ _) ?_
        refine pA (.int _ _) ?_
        refine pE (gn (wpL_rt (br (gr (gr (br (br (gr (gr (br (gr ?_)))))))))))
        replace hk := lx hx2 hk
        replace hk := lx hx1 hk
        replace hk := Option.some.inj hk; subst hk; exact finZ hO (fz_tup (n := 3) (fz_c (fz_int _ _) (fz_c (fz_int _ _) (fz_n)))) (resT (.int _ _) (resT (.int _ _) resN))
      · replace hk := cf hb hk
        refine wpL_sk (bn (gn (wpL_rg ?_)))
        refine pBi ?_
        refine pM (.int _ _) ?_
        refine pE (gn ?_)
        cases hk; exact ⟨_, rfl, _, _, (Owns.pick hO [1] (by decide) rfl), St.hav _ ⟨rfl, rfl, rfl, rfl, rfl, rfl, rfl, rfl, trivial⟩⟩
    · replace hk := cf hb hk
      refine wpL_ex (ge (ge (be (bn (gn ?_)))))
      replace hk := lx hx2 hk
      refine wpL_rg ?_
      refine pBi ?_
      refine pM (.int _ _) ?_
      refine pE (gn ?_)
      cases hk; exact ⟨_, rfl, _, _, hO, St.hav _ ⟨rfl, rfl, rfl, rfl, trivial⟩⟩
  · replace hk := cf hb hk
    refine wpL_ex (ge (ge (be (gn ?_))))
    replace hk := lx hx1 hk
    refine wpL_sq (wpL_rg ?_)
    refine pA (.int _ _) ?_
    refine pA (.int _ _) ?_
    refine pE (gn (wpL_rt ?_))
    replace hk := Option.some.inj hk; subst hk; exact finZ hO (fz_tup (n := 3) (fz_c (fz_int _ _) (fz_c (fz_int _ _) (fz_n)))) (resT (.int _ _) (resT (.int _ _) resN))
/-- spec.l22across -/
def f307 (aJ0 : Joint) (aK1 : Int) : Option (List End) :=
  (bif (aJ0.Kind == (2:Int)) then ((getI aJ0.Ends (w64 ((1:Int) - aK1))).bind fun c2 => some ([c2] : List End)) else (bif (aJ0.Kind == (3:Int)) then (bif (aK1 == (0:Int)) then ((getI aJ0.Ends (1:Int)).bind fun c4 => ((getI aJ0.Ends (2:Int)).bind fun c5 => some ([c4, c5] : List End))) else ((getI aJ0.Ends (0:Int)).bind fun c7 => some ([c7] : List End))) else (bif (aJ0.Kind == (4:Int)) then ((getI ([(1:Int), (0:Int), (3:Int), (2:Int)] : List Int) aK1).bind fun c9 => ((getI aJ0.Ends c9).bind fun c10 => some ([c10] : List End))) else some ([] : List End))))
theorem f307_run {aJ0 : Joint} {aK1 : Int} {r : (List End)} {l1 : Nat} {H : Heap} {lk : Lk} (hk : f307 aJ0 aK1 = some r) (hlk : 0 < lk.length := by simp) : runL Try.prog hh 307 [.agg [.int .i64 aJ0.Kind, .str aJ0.Name, .lit l1 aJ0.Ends.length ((flatL 0) aJ0.Ends)], .int .i64 aK1] H lk = some (.lit 0 r.length ((flatL 0) r), H) := by
  refine run_start Try.func307 rfl Try.ntmps307 Try.results307 rfl rfl fun hO => ?_
  unfold f307 at hk
  refine wpL_sq (wpL_rg ?_)
  refine pBox (cs := [_, _, _]) hO tZ332 (fun b1 G hO => ?_)
  refine pA (.tl 0 []) ?_
  refine pE (gn (wpL_sq (wpL_sq (wpL_rg ?_))))
  refine pF tF332_0 ?_
  refine pLo hO 0 (.int _ _) tA3 ?_
  refine pE (gn (wpL_bl (wpL_sq (wpL_rg ?_))))
  refine pBi ?_
  refine pA (.bool _) ?_
  refine pE (gn ?_)
  refine wpL_cd (b := (aJ0.Kind == (2:Int))) (fun hb => ?_) (fun hb => ?_)
  · replace hk := ct hb hk
    refine wpL_sq (wpL_rg ?_)
    refine pF tF332_2 ?_
    refine pLo hO 0 (.lit _ _ _) tA330 ?_
    refine pM (.int _ _) ?_
    refine pBi ?_
    obtain ⟨c2, hc2, hk⟩ := bs hk
    refine pX hc2 tE330 tZ260 ?_
    refine pLp (.agg [_, _]) (rd2 (lm := 0) (off := 0) hc2 tA260 tZ260) ?_
    refine pBs (ps := [(0, (.agg [_, _]))]) ([c2] : List End) tE330 tZ260 t0260 (emb_cons (embx_agg (α := End) c2) (emb_nil)) ?_
    refine pA (.tl 1 ((flatL 0) ([c2] : List End))) ?_
    refine pE (gn (wpL_rt (br (gr ?_))))
    replace hO := Owns.addTl hO lk.length ([c2] : List End)
    replace hk := Option.some.inj hk; subst hk; exact finZ hO (fz_own (xs := ([c2] : List End)) hlk 0) (resT (.tl 1 ((flatL 0) ([c2] : List End))) resN)
  · replace hk := cf hb hk
    refine wpL_sq (wpL_rg ?_)
    refine pBi ?_
    refine pA (.bool _) ?_
    refine pE (gn ?_)
    refine wpL_cd (b := (aJ0.Kind == (3:Int))) (fun hb => ?_) (fun hb => ?_)
    · replace hk := ct hb hk
      refine wpL_sq (wpL_sq (wpL_rg ?_))
      refine pM (.int _ _) ?_
      refine pBi ?_
      refine pE (gn ?_)
      refine wpL_cd (b := (aK1 == (0:Int))) (fun hb => ?_) (fun hb => ?_)
      · replace hk := ct hb hk
        refine wpL_sq ?_
        refine wpL_drw [(0, true), (1, true), (2, true), (3, true), (4, true), (5, true), (6, true), (7, true), (8, false), (9, false)] [_, _, _, _, _, _, _, _, _, _] (by decide +kernel) (by rfl) ?_
        refine pF tF332_2 ?_
        refine pLo hO 0 (.lit _ _ _) tA330 ?_
        obtain ⟨c4, hc4, hk⟩ := bs hk
        refine pX hc4 tE330 tZ260 ?_
        refine pLp (.agg [_, _]) (rd2 (lm := 0) (off := 0) hc4 tA260 tZ260) ?_
        refine pF tF332_2 ?_
        refine pLo hO 0 (.lit _ _ _) tA330 ?_
        obtain ⟨c5, hc5, hk⟩ := bs hk
        refine pX hc5 tE330 tZ260 ?_
        refine pLp (.agg [_, _]) (rd2 (lm := 0) (off := 0) hc5 tA260 tZ260) ?_
        refine pBs (ps := [(0, (.agg [_, _])), (1, (.agg [_, _]))]) ([c4, c5] : List End) tE330 tZ260 t0260 (emb_cons (embx_agg (α := End) c4) (emb_cons (embx_agg (α := End) c5) (emb_nil))) ?_
        refine pA (.tl 2 ((flatL 0) ([c4, c5] : List End))) ?_
        refine pE (gn (wpL_rt (gr (br (gr ?_)))))
        replace hO := Owns.addTl hO lk.length ([c4, c5] : List End)
        replace hk := Option.some.inj hk; subst hk; exact finZ hO (fz_own (xs := ([c4, c5] : List End)) hlk 0) (resT (.tl 2 ((flatL 0) ([c4, c5] : List End))) resN)
      · replace hk := cf hb hk
        refine wpL_sk (gn (wpL_sq (wpL_rg ?_)))
        refine pF tF332_2 ?_
        refine pLo hO 0 (.lit _ _ _) tA330 ?_
        obtain ⟨c7, hc7, hk⟩ := bs hk
        refine pX hc7 tE330 tZ260 ?_
        refine pLp (.agg [_, _]) (rd2 (lm := 0) (off := 0) hc7 tA260 tZ260) ?_
        refine pBs (ps := [(0, (.agg [_, _]))]) ([c7] : List End) tE330 tZ260 t0260 (emb_cons (embx_agg (α := End) c7) (emb_nil)) ?_
        refine pA (.tl 1 ((flatL 0) ([c7] : List End))) ?_
        refine pE (gn (wpL_rt (br (gr ?_))))
        replace hO := Owns.addTl hO lk.length ([c7] : List End)
        replace hk := Option.some.inj hk; subst hk; exact finZ hO (fz_own (xs := ([c7] : List End)) hlk 0) (resT (.tl 1 ((flatL 0) ([c7] : List End))) resN)
    · replace hk := cf hb hk
      refine wpL_sq (wpL_rg ?_)
      refine pBi ?_
      refine pA (.bool _) ?_
      refine pE (gn ?_)
      refine wpL_cd (b := (aJ0.Kind == (4:Int))) (fun hb => ?_) (fun hb => ?_)
      · replace hk := ct hb hk
        refine wpL_sq ?_
        refine wpL_drw [(0, true), (1, true), (2, true), (3, true), (4, true), (5, true), (6, false), (7, true), (8, false), (9, false)] [_, _, _, _, _, _, _, _, _, _] (by decide +kernel) (by rfl) ?_
        refine pF tF332_2 ?_
        refine pLo hO 0 (.lit _ _ _) tA330 ?_
        refine pBs (ps := [(0, (.int _ _)), (1, (.int _ _)), (2, (.int _ _)), (3, (.int _ _))]) ([(1:Int), (0:Int), (3:Int), (2:Int)] : List Int) tE26 tZ3 t03 (emb_cons (embx_int _ _) (emb_cons (embx_int _ _) (emb_cons (embx_int _ _) (emb_cons (embx_int _ _) (emb_nil))))) ?_
        refine pM (.int _ _) ?_
        obtain ⟨c9, hc9, hk⟩ := bs hk
        refine pXt hc9 tE26 tZ3 ?_
        refine pLp (.int _ _) (rd1 (lm := 0) (off := 0) hc9 tA3) ?_
        obtain ⟨c10, hc10, hk⟩ := bs hk
        refine pX hc10 tE330 tZ260 ?_
        refine pLp (.agg [_, _]) (rd2 (lm := 0) (off := 0) hc10 tA260 tZ260) ?_
        refine pBs (ps := [(0, (.agg [_, _]))]) ([c10] : List End) tE330 tZ260 t0260 (emb_cons (embx_agg (α := End) c10) (emb_nil)) ?_
        refine pA (.tl 1 ((flatL 0) ([c10] : List End))) ?_
        refine pE (gn (wpL_rt (br (gr ?_))))
        replace hO := Owns.addTl hO lk.length ([c10] : List End)
        replace hk := Option.some.inj hk; subst hk; exact finZ hO (fz_own (xs := ([c10] : List End)) hlk 0) (resT (.tl 1 ((flatL 0) ([c10] : List End))) resN)
      · replace hk := cf hb hk
        refine wpL_sk (bn (gn (wpL_sq (wpL_rg ?_))))
        refine pA (.tl 0 []) ?_
        refine pE (gn (wpL_rt ?_))
        replace hk := Option.some.inj hk; subst hk; exact finZ hO (fz_nil (k := 0) End) (resT (.tl 0 []) resN)
/-- spec.l23joined -/
def f285_L1 (v6 : End) (v9 : (List End)) : Int → Option (Int ⊕ Bool) := fun s =>
  (bif decide (s < (v9.length : Int)) then ((getI v9 s).bind fun c11 => (bif ((c11.Piece == v6.Piece) && ((c11.Side == v6.Side) && true)) then ((some true).map Sum.inr) else some (.inl (w64 (s + (1:Int)))))) else ((some false).map Sum.inr))
def f285 (aN0 : Net) (aA1 : Step) (aB2 : Step) : Option Bool :=
  ((f224 aA1.Piece aA1.Way).bind fun v4 => ((f306 aN0 v4).bind fun v5 => ((f224 aB2.Piece (w64 (0 - aB2.Way))).bind fun v6 => ((getI aN0.Joints v5.1).bind fun c8 => ((f307 c8 v5.2).bind fun v9 => (loopO (f285_L1 v6 v9) ((0:Int))))))))
theorem f285_run {aN0 : Net} {aA1 : Step} {aB2 : Step} {r : Bool} {l1 l2 m3 : Nat} {H : Heap} {lk : Lk} (hk : f285 aN0 aA1 aB2 = some r) (hlk : 0 < lk.length := by simp) : runL Try.prog hh 285 [.agg [.lit l1 aN0.Pieces.length ((flatL 0) aN0.Pieces), .lit l2 aN0.Joints.length (flatL m3 aN0.Joints)], .agg [.int .i64 aA1.Piece, .int .i64 aA1.Way], .agg [.int .i64 aB2.Piece, .int .i64 aB2.Way]] H lk = some (.bool r, H) := by
  refine run_start Try.func285 rfl Try.ntmps285 Try.results285 rfl rfl fun hO => ?_
  unfold f285 at hk
  refine wpL_sq (wpL_rg ?_)
  refine pBox (cs := [_, _]) hO tZ132 (fun b1 G hO => ?_)
  refine pBox (cs := [_, _]) hO tZ258 (fun b2 G hO => ?_)
  refine pBox (cs := [_, _]) hO tZ258 (fun b3 G hO => ?_)
  refine pA (.bool _) ?_
  refine pE (gn (wpL_sq ?_))
  refine wpL_drw [(0, true), (1, true), (2, true), (3, true), (4, true), (5, true), (6, false), (7, false), (8, false), (9, false), (10, false), (11, false)] [_, _, _, _, _, _, _, _, _, _, _, _] (by decide +kernel) (by rfl) ?_
  refine pLs hO 2 [_, _] tA132 tZ132 ?_
  refine pF tF258_0 ?_
  refine pLo hO 1 (.int _ _) tA3 ?_
  refine pF tF258_1 ?_
  refine pLo hO 1 (.int _ _) tA3 ?_
  obtain ⟨v4, hv4, hk⟩ := bs hk
  refine pCall (fun _ => f224_run hv4) ?_
  obtain ⟨v5, hv5, hk⟩ := bs hk
  refine pCall (fun _ => f306_run hv5) ?_
  refine pM (.tup [_, _]) ?_
  refine pEx (.int _ _) ?_
  refine pEx (.int _ _) ?_
  refine pA (.int _ _) ?_
  refine pA (.int _ _) ?_
  refine pE (gn (wpL_sq (wpL_rg ?_)))
  refine pF tF258_0 ?_
  refine pLo hO 0 (.int _ _) tA3 ?_
  refine pF tF258_1 ?_
  refine pLo hO 0 (.int _ _) tA3 ?_
  refine pU ?_
  obtain ⟨v6, hv6, hk⟩ := bs hk
  refine pCall (fun _ => f224_run hv6) ?_
  refine pNew hO tZ260 t0260 (fun b7 G hO => ?_)
  refine pSt (xs := [_, _]) hO 0 tZ260 rfl (fun G hO => ?_)
  refine pE (gn (wpL_sq (wpL_sq (wpL_rg ?_))))
  refine pF tF132_1 ?_
  refine pLo hO 3 (.lit _ _ _) tA130 ?_
  refine pM (.int _ _) ?_
  obtain ⟨c8, hc8, hk⟩ := bs hk
  refine pX hc8 tE130 tZ332 ?_
  refine pLp (.agg [_, _, _]) (rd2 (lm := m3) (off := 0) hc8 tA332 tZ332) ?_
  refine pM (.int _ _) ?_
  obtain ⟨v9, hv9, hk⟩ := bs hk
  refine pCall (fun _ => f307_run hv9) ?_
  refine pLen tS330 ?_
  refine pM (.int _ _) ?_
  refine pE (gn (wpL_bl ?_))
  refine wpL_loopO (F := f285_L1 v6 v9) (fun s S' => ∃ (J : Nat → V) (G : Heap), Owns H G [.blk b7 (.cells 2 [.int .i64 v6.Piece, .int .i64 v6.Side])] ∧ S' = ⟨hav [(9, .ptr b7 0), (34, .lit 0 v9.length ((flatL 0) v9)), (35, .int .i64 (v9.length : Int)), (36, .int .i64 s)] J, G⟩) hk ⟨_, _, (Owns.pick hO [0] (by decide) rfl), St.hav _ ⟨rfl, rfl, rfl, rfl, trivial⟩⟩ ?_
  rintro x10 _ y1 ⟨J, G, hO, rfl⟩ hk hx1
  refine wpL_sq (wpL_rg ?_)
  refine pBi ?_
  refine pE (gn (wpL_sq ?_))
  refine wpL_cd (b := decide (x10 < (v9.length : Int))) (fun hb => ?_) (fun hb => ?_)
  · replace hk := ct hb hk
    refine wpL_sk (gn (wpL_sq (wpL_bl (wpL_sq (wpL_rg ?_)))))
    obtain ⟨c11, hc11, hk⟩ := bs hk
    refine pX hc11 tE330 tZ260 ?_
    refine pLp (.agg [_, _]) (rd2 (lm := 0) (off := 0) hc11 tA260 tZ260) ?_
    refine pNew hO tZ260 t0260 (fun b12 G hO => ?_)
    refine pSt (xs := [_, _]) hO 0 tZ260 rfl (fun G hO => ?_)
    refine pE (gn (wpL_sq (wpL_rg ?_)))
    refine pLs hO 0 [_, _] tA260 tZ260 ?_
    refine pLs hO 1 [_, _] tA260 tZ260 ?_
    refine pGq tG260 (eqc (eqi _ _ _) (eqc (eqi _ _ _) (rfl))) ?_
    refine pE (gn ?_)
    refine wpL_cd (b := ((c11.Piece == v6.Piece) && ((c11.Side == v6.Side) && true))) (fun hb => ?_) (fun hb => ?_)
    · replace hk := ct hb hk
      refine wpL_sq (wpL_rg ?_)
      refine pA (.bool _) ?_
      refine pE (gn (wpL_rt (br (gr (gr (br (gr ?_)))))))
      replace hk := lx hx1 hk
      replace hk := Option.some.inj hk; subst hk; exact fin0 hO
    · replace hk := cf hb hk
      refine wpL_sk (bn (gn (wpL_rg ?_)))
      refine pBi ?_
      refine pM (.int _ _) ?_
      refine pE (gn ?_)
      cases hk; exact ⟨_, rfl, _, _, (Owns.pick hO [1] (by decide) rfl), St.hav _ ⟨rfl, rfl, rfl, rfl, trivial⟩⟩
  · replace hk := cf hb hk
    refine wpL_ex (ge (ge (be (gn ?_))))
    replace hk := lx hx1 hk
    refine wpL_sq (wpL_rg ?_)
    refine pA (.bool _) ?_
    refine pE (gn (wpL_rt ?_))
    replace hk := Option.some.inj hk; subst hk; exact fin0 hO
/-- spec.l23train -/
def f196_L1 (aN0 : Net) (aT1 : Train) : (Int × Int × Int × Int) → Option ((Int × Int × Int × Int) ⊕ Bool) := fun s =>
  (bif decide (s.2.2.2 < (aT1.Back.length : Int)) then ((getI aT1.Back s.2.2.2).bind fun c12 => ((f221 c12.Piece (0:Int) (w64 ((aN0.Pieces.length : Int) - (1:Int)))).bind fun v14 => ((bif ((!v14 || ((c12.Way != (1:Int)) && (c12.Way != (-1:Int)))) || decide (s.2.2.1 ≥ aT1.Long)) then some true else ((f285 aN0 c12 ({ Piece := s.1, Way := s.2.1 } : Step)).bind fun v16 => some (!v16))).bind fun t15 => (bif t15 then ((some false).map Sum.inr) else ((getI aN0.Pieces c12.Piece).bind fun c17 => some (.inl (c12.Piece, c12.Way, w64 (s.2.2.1 + c17.Len), w64 (s.2.2.2 + (1:Int))))))))) else ((some (decide (s.2.2.1 ≥ aT1.Long))).map Sum.inr))
def f196 (aN0 : Net) (aT1 : Train) : Option Bool :=
  ((f220 aN0 aT1.Front).bind fun v3 => ((bif !v3 then some true else ((f221 aT1.Long (1:Int) (100000:Int)).bind fun v5 => some (!v5))).bind fun t4 => (bif (t4 || decide ((aT1.Back.length : Int) > (200:Int))) then some false else ((f222 aN0 aT1.Front).bind fun v6 => (loopO (f196_L1 aN0 aT1) (aT1.Front.Piece, aT1.Front.Way, v6, (0:Int)))))))
theorem f196_run {aN0 : Net} {aT1 : Train} {r : Bool} {l1 l2 m3 l4 : Nat} {H : Heap} {lk : Lk} (hk : f196 aN0 aT1 = some r) (hlk : 0 < lk.length := by simp) : runL Try.prog hh 196 [.agg [.lit l1 aN0.Pieces.length ((flatL 0) aN0.Pieces), .lit l2 aN0.Joints.length (flatL m3 aN0.Joints)], .agg [.int .i64 aT1.Front.Piece, .int .i64 aT1.Front.At, .int .i64 aT1.Front.Way, .int .i64 aT1.Long, .lit l4 aT1.Back.length ((flatL 0) aT1.Back)]] H lk = some (.bool r, H) := by
  refine run_start Try.func196 rfl Try.ntmps196 Try.results196 rfl rfl fun hO => ?_
  unfold f196 at hk
  refine wpL_sq (wpL_rg ?_)
  refine pBox (cs := [_, _]) hO tZ132 (fun b1 G hO => ?_)
  refine pBox (cs := [_, _, _, _, _]) hO tZ136 (fun b2 G hO => ?_)
  refine pA (.bool _) ?_
  refine pE (gn (wpL_sq (wpL_sq (wpL_rg ?_))))
  refine pLs hO 1 [_, _] tA132 tZ132 ?_
  refine pF tF136_0 ?_
  refine pLs hO 0 [_, _, _] tA134 tZ134 ?_
  obtain ⟨v3, hv3, hk⟩ := bs hk
  refine pCall (fun _ => f220_run hv3) ?_
  refine pU ?_
  refine pM (.bool _) ?_
  obtain ⟨t4, ht, hk⟩ := bs hk
  refine wpR_mid (l1 := [_, _, _, _, _]) (fun S' => ∃ J, S' = ⟨hav [(2, .ptr b1 0), (3, .ptr b2 0), (19, .bool t4)] J, G⟩) ?_ ?_
  · refine bc (b := !v3) (fun hg1 => ?_) (fun hg1 => ?_)
    · replace hk := ct hg1 ht
      refine pGn hg1 ?_
      refine pGn hg1 ?_
      refine pGn hg1 ?_
      refine pGn hg1 ?_
      refine pPt hg1 (.bool _) ?_
      cases hk; exact pE ⟨_, St.hav _ ⟨rfl, rfl, rfl, trivial⟩⟩
    · replace hk := cf hg1 ht
      refine pGy hg1 ?_
      refine pF tF136_1 ?_
      refine pGy hg1 ?_
      refine pLo hO 0 (.int _ _) tA3 ?_
      refine pGy hg1 ?_
      obtain ⟨v5, hv5, hk⟩ := bs hk
      refine pCall (fun _ => f221_run hv5) ?_
      refine pGy hg1 ?_
      refine pU ?_
      refine pPf hg1 (.bool _) ?_
      cases hk; exact pE ⟨_, St.hav _ ⟨rfl, rfl, rfl, trivial⟩⟩
  · rintro _ ⟨J, rfl⟩
    refine pM (.bool _) ?_
    refine wpR_mid (l1 := [_, _, _, _, _]) (fun S' => ∃ J, S' = ⟨hav [(2, .ptr b1 0), (3, .ptr b2 0), (25, .bool (t4 || decide ((aT1.Back.length : Int) > (200:Int))))] J, G⟩) ?_ ?_
    · refine bc (b := t4) (fun hg1 => ?_) (fun hg1 => ?_)
      · refine pGn hg1 ?_
        refine pGn hg1 ?_
        refine pGn hg1 ?_
        refine pGn hg1 ?_
        refine pPt hg1 (.bool _) ?_
        exact pE ⟨_, St.hav _ ⟨rfl, rfl, by rw [hg1]; rfl, trivial⟩⟩
      · refine pGy hg1 ?_
        refine pF tF136_2 ?_
        refine pGy hg1 ?_
        refine pLo hO 0 (.lit _ _ _) tA63 ?_
        refine pGy hg1 ?_
        refine pLen tS63 ?_
        refine pGy hg1 ?_
        refine pBi ?_
        refine pPf hg1 (.bool _) ?_
        exact pE ⟨_, St.hav _ ⟨rfl, rfl, by rw [hg1]; rfl, trivial⟩⟩
    · rintro _ ⟨J, rfl⟩
      refine pE (gn ?_)
      refine wpL_cd (b := (t4 || decide ((aT1.Back.length : Int) > (200:Int)))) (fun hb => ?_) (fun hb => ?_)
      · replace hk := ct hb hk
        refine wpL_sq (wpL_rg ?_)
        refine pA (.bool _) ?_
        refine pE (gn (wpL_rt (gr ?_)))
        replace hk := Option.some.inj hk; subst hk; exact fin0 hO
      · replace hk := cf hb hk
        refine wpL_sk (gn (wpL_sq (wpL_rg ?_)))
        refine pLs hO 1 [_, _] tA132 tZ132 ?_
        refine pF tF136_0 ?_
        refine pLs hO 0 [_, _, _] tA134 tZ134 ?_
        obtain ⟨v6, hv6, hk⟩ := bs hk
        refine pCall (fun _ => f222_run hv6) ?_
        refine pA (.int _ _) ?_
        refine pE (gn (wpL_sq (wpL_rg ?_)))
        refine pF tF136_0 ?_
        refine pF tF134_0 ?_
        refine pLo hO 0 (.int _ _) tA3 ?_
        refine pF tF136_0 ?_
        refine pF tF134_2 ?_
        refine pLo hO 0 (.int _ _) tA3 ?_
        refine pBd [_, _] t0258 tP258 ?_
        refine pNew hO tZ258 t0258 (fun b7 G hO => ?_)
        refine pSt (xs := [_, _]) hO 0 tZ258 rfl (fun G hO => ?_)
        refine pE (gn (wpL_sq (wpL_sq (wpL_rg ?_))))
        refine pF tF136_2 ?_
        refine pLo hO 1 (.lit _ _ _) tA63 ?_
        refine pLen tS63 ?_
        refine pM (.int _ _) ?_
        refine pE (gn (wpL_bl ?_))
        refine wpL_loopO (F := f196_L1 aN0 aT1) (fun s S' => ∃ (J : Nat → V) (G : Heap), Owns H G [.blk b7 (.cells 2 [.int .i64 s.1, .int .i64 s.2.1]), .blk b2 (.cells 5 [.int .i64 aT1.Front.Piece, .int .i64 aT1.Front.At, .int .i64 aT1.Front.Way, .int .i64 aT1.Long, .lit l4 aT1.Back.length ((flatL 0) aT1.Back)]), .blk b1 (.cells 2 [.lit l1 aN0.Pieces.length ((flatL 0) aN0.Pieces), .lit l2 aN0.Joints.length (flatL m3 aN0.Joints)])] ∧ S' = ⟨hav [(2, .ptr b1 0), (3, .ptr b2 0), (5, .int .i64 s.2.2.1), (6, .ptr b7 0), (38, .lit l4 aT1.Back.length ((flatL 0) aT1.Back)), (39, .int .i64 (aT1.Back.length : Int)), (40, .int .i64 s.2.2.2)] J, G⟩) hk ⟨_, _, hO, St.hav _ ⟨rfl, rfl, rfl, rfl, rfl, rfl, rfl, trivial⟩⟩ ?_
        rintro ⟨x8, x9, x10, x11⟩ _ y1 ⟨J, G, hO, rfl⟩ hk hx1
        refine wpL_sq (wpL_rg ?_)
        refine pBi ?_
        refine pE (gn (wpL_sq ?_))
        refine wpL_cd (b := decide (x11 < (aT1.Back.length : Int))) (fun hb => ?_) (fun hb => ?_)
        · replace hk := ct hb hk
          refine wpL_sk (gn (wpL_sq (wpL_bl (wpL_sq (wpL_rg ?_)))))
          obtain ⟨c12, hc12, hk⟩ := bs hk
          refine pX hc12 tE63 tZ258 ?_
          refine pLp (.agg [_, _]) (rd2 (lm := 0) (off := 0) hc12 tA258 tZ258) ?_
          refine pNew hO tZ258 t0258 (fun b13 G hO => ?_)
          refine pSt (xs := [_, _]) hO 0 tZ258 rfl (fun G hO => ?_)
          refine pE (gn (wpL_sq (wpL_sq (wpL_rg ?_))))
          refine pF tF258_0 ?_
          refine pLo hO 0 (.int _ _) tA3 ?_
          refine pF tF132_0 ?_
          refine pLo hO 3 (.lit _ _ _) tA129 ?_
          refine pLen tS129 ?_
          refine pBi ?_
          obtain ⟨v14, hv14, hk⟩ := bs hk
          refine pCall (fun _ => f221_run hv14) ?_
          refine pU ?_
          refine pM (.bool _) ?_
          refine wpR_mid (l1 := [_, _, _, _, _, _, _, _, _]) (fun S' => ∃ J, S' = ⟨hav [(2, .ptr b1 0), (3, .ptr b2 0), (5, .int .i64 x10), (6, .ptr b7 0), (8, .ptr b13 0), (38, .lit l4 aT1.Back.length ((flatL 0) aT1.Back)), (39, .int .i64 (aT1.Back.length : Int)), (40, .int .i64 x11), (61, .bool (!v14 || ((c12.Way != (1:Int)) && (c12.Way != (-1:Int)))))] J, G⟩) ?_ ?_
          · refine bc (b := !v14) (fun hg1 => ?_) (fun hg1 => ?_)
            · refine pGn hg1 ?_
              refine pGn hg1 ?_
              refine pGn hg1 ?_
              refine pGn hg1 ?_
              refine pGu ?_
              refine pGu ?_
              refine pGu ?_
              refine pGn hg1 ?_
              refine pPt hg1 (.bool _) ?_
              exact pE ⟨_, St.hav _ ⟨rfl, rfl, rfl, rfl, rfl, rfl, rfl, rfl, by rw [hg1]; rfl, trivial⟩⟩
            · refine pGy hg1 ?_
              refine pF tF258_1 ?_
              refine pGy hg1 ?_
              refine pLo hO 0 (.int _ _) tA3 ?_
              refine pGy hg1 ?_
              refine pBi ?_
              refine pGy hg1 ?_
              refine pM (.bool _) ?_
              refine wpR_mid (l1 := [_, _, _, _]) (fun S' => ∃ J, S' = ⟨hav [(2, .ptr b1 0), (3, .ptr b2 0), (5, .int .i64 x10), (6, .ptr b7 0), (8, .ptr b13 0), (38, .lit l4 aT1.Back.length ((flatL 0) aT1.Back)), (39, .int .i64 (aT1.Back.length : Int)), (40, .int .i64 x11), (52, .bool (!v14)), (60, .bool ((c12.Way != (1:Int)) && (c12.Way != (-1:Int))))] J, G⟩) ?_ ?_
              · refine bc (b := (c12.Way != (1:Int))) (fun hg2 => ?_) (fun hg2 => ?_)
                · refine pGy hg2 ?_
                  refine pF tF258_1 ?_
                  refine pGy hg2 ?_
                  refine pLo hO 0 (.int _ _) tA3 ?_
                  refine pGy hg2 ?_
                  refine pBi ?_
                  refine pGy hg1 ?_
                  refine pPt hg2 (.bool _) ?_
                  exact pE ⟨_, St.hav _ ⟨rfl, rfl, rfl, rfl, rfl, rfl, rfl, rfl, rfl, by rw [hg2]; rfl, trivial⟩⟩
                · refine pGn hg2 ?_
                  refine pGn hg2 ?_
                  refine pGn hg2 ?_
                  refine pGy hg1 ?_
                  refine pPf hg2 (.bool _) ?_
                  exact pE ⟨_, St.hav _ ⟨rfl, rfl, rfl, rfl, rfl, rfl, rfl, rfl, rfl, by rw [hg2]; rfl, trivial⟩⟩
              · rintro _ ⟨J, rfl⟩
                refine pPf hg1 (.bool _) ?_
                exact pE ⟨_, St.hav _ ⟨rfl, rfl, rfl, rfl, rfl, rfl, rfl, rfl, by rw [hg1]; rfl, trivial⟩⟩
          · rintro _ ⟨J, rfl⟩
            refine pM (.bool _) ?_
            refine wpR_mid (l1 := [_, _, _, _, _]) (fun S' => ∃ J, S' = ⟨hav [(2, .ptr b1 0), (3, .ptr b2 0), (5, .int .i64 x10), (6, .ptr b7 0), (8, .ptr b13 0), (38, .lit l4 aT1.Back.length ((flatL 0) aT1.Back)), (39, .int .i64 (aT1.Back.length : Int)), (40, .int .i64 x11), (67, .bool ((!v14 || ((c12.Way != (1:Int)) && (c12.Way != (-1:Int)))) || decide (x10 ≥ aT1.Long)))] J, G⟩) ?_ ?_
            · refine bc (b := (!v14 || ((c12.Way != (1:Int)) && (c12.Way != (-1:Int))))) (fun hg1 => ?_) (fun hg1 => ?_)
              · refine pGn hg1 ?_
                refine pGn hg1 ?_
                refine pGn hg1 ?_
                refine pGn hg1 ?_
                refine pPt hg1 (.bool _) ?_
                exact pE ⟨_, St.hav _ ⟨rfl, rfl, rfl, rfl, rfl, rfl, rfl, rfl, by rw [hg1]; rfl, trivial⟩⟩
              · refine pGy hg1 ?_
                refine pM (.int _ _) ?_
                refine pGy hg1 ?_
                refine pF tF136_1 ?_
                refine pGy hg1 ?_
                refine pLo hO 2 (.int _ _) tA3 ?_
                refine pGy hg1 ?_
                refine pBi ?_
                refine pPf hg1 (.bool _) ?_
                exact pE ⟨_, St.hav _ ⟨rfl, rfl, rfl, rfl, rfl, rfl, rfl, rfl, by rw [hg1]; rfl, trivial⟩⟩
            · rintro _ ⟨J, rfl⟩
              refine pM (.bool _) ?_
              obtain ⟨t15, ht, hk⟩ := bs hk
              refine wpR_mid (l1 := [_, _, _, _, _, _]) (fun S' => ∃ J, S' = ⟨hav [(2, .ptr b1 0), (3, .ptr b2 0), (5, .int .i64 x10), (6, .ptr b7 0), (8, .ptr b13 0), (38, .lit l4 aT1.Back.length ((flatL 0) aT1.Back)), (39, .int .i64 (aT1.Back.length : Int)), (40, .int .i64 x11), (74, .bool t15)] J, G⟩) ?_ ?_
              · refine bc (b := ((!v14 || ((c12.Way != (1:Int)) && (c12.Way != (-1:Int)))) || decide (x10 ≥ aT1.Long))) (fun hg1 => ?_) (fun hg1 => ?_)
                · replace hk := ct hg1 ht
                  refine pGn hg1 ?_
                  refine pGn hg1 ?_
                  refine pGn hg1 ?_
                  refine pGn hg1 ?_
                  refine pGn hg1 ?_
                  refine pPt hg1 (.bool _) ?_
                  cases hk; exact pE ⟨_, St.hav _ ⟨rfl, rfl, rfl, rfl, rfl, rfl, rfl, rfl, rfl, trivial⟩⟩
                · replace hk := cf hg1 ht
                  refine pGy hg1 ?_
                  refine pLs hO 3 [_, _] tA132 tZ132 ?_
                  refine pGy hg1 ?_
                  refine pLs hO 0 [_, _] tA258 tZ258 ?_
                  refine pGy hg1 ?_
                  refine pLs hO 1 [_, _] tA258 tZ258 ?_
                  refine pGy hg1 ?_
                  obtain ⟨v16, hv16, hk⟩ := bs hk
                  refine pCall (fun _ => f285_run hv16) ?_
                  refine pGy hg1 ?_
                  refine pU ?_
                  refine pPf hg1 (.bool _) ?_
                  cases hk; exact pE ⟨_, St.hav _ ⟨rfl, rfl, rfl, rfl, rfl, rfl, rfl, rfl, rfl, trivial⟩⟩
              · rintro _ ⟨J, rfl⟩
                refine pE (gn ?_)
                refine wpL_cd (b := t15) (fun hb => ?_) (fun hb => ?_)
                · replace hk := ct hb hk
                  refine wpL_sq (wpL_rg ?_)
                  refine pA (.bool _) ?_
                  refine pE (gn (wpL_rt (gr (br (gr (gr (br (gr ?_))))))))
                  replace hk := lx hx1 hk
                  replace hk := Option.some.inj hk; subst hk; exact fin0 hO
                · replace hk := cf hb hk
                  refine wpL_sk (gn (wpL_sq (wpL_rg ?_)))
                  refine pM (.int _ _) ?_
                  refine pF tF132_0 ?_
                  refine pLo hO 3 (.lit _ _ _) tA129 ?_
                  refine pF tF258_0 ?_
                  refine pLo hO 0 (.int _ _) tA3 ?_
                  obtain ⟨c17, hc17, hk⟩ := bs hk
                  refine pX hc17 tE129 tZ266 ?_
                  refine pF tF266_1 ?_
                  refine pLp (.int _ _) (rd1 (lm := 0) (off := 1) hc17 tA3) ?_
                  refine pBi ?_
                  refine pA (.int _ _) ?_
                  refine pE (gn (wpL_rg ?_))
                  refine pLs hO 0 [_, _] tA258 tZ258 ?_
                  refine pSt (xs := [_, _]) hO 1 tZ258 rfl (fun G hO => ?_)
                  refine pE (bn (gn (wpL_rg ?_)))
                  refine pBi ?_
                  refine pM (.int _ _) ?_
                  refine pE (gn ?_)
                  cases hk; exact ⟨_, rfl, _, _, (Owns.pick hO [1, 2, 3] (by decide) rfl), St.hav _ ⟨rfl, rfl, rfl, rfl, rfl, rfl, rfl, trivial⟩⟩
        · replace hk := cf hb hk
          refine wpL_ex (ge (ge (be (gn ?_))))
          replace hk := lx hx1 hk
          refine wpL_sq (wpL_rg ?_)
          refine pM (.int _ _) ?_
          refine pF tF136_1 ?_
          refine pLo hO 1 (.int _ _) tA3 ?_
          refine pBi ?_
          refine pA (.bool _) ?_
          refine pE (gn (wpL_rt ?_))
          replace hk := Option.some.inj hk; subst hk; exact fin0 hO
/-- spec.TrainOk -/
def f79 (aN0 : Net) (aT1 : Train) : Option Bool :=
  ((f195 aN0).bind fun v3 => ((bif v3 then ((f196 aN0 aT1).bind fun v5 => some v5) else some false).bind fun t4 => some t4))
theorem f79_run {aN0 : Net} {aT1 : Train} {r : Bool} {l1 l2 m3 l4 : Nat} {H : Heap} {lk : Lk} (hk : f79 aN0 aT1 = some r) (hlk : 0 < lk.length := by simp) : runL Try.prog hh 79 [.agg [.lit l1 aN0.Pieces.length ((flatL 0) aN0.Pieces), .lit l2 aN0.Joints.length (flatL m3 aN0.Joints)], .agg [.int .i64 aT1.Front.Piece, .int .i64 aT1.Front.At, .int .i64 aT1.Front.Way, .int .i64 aT1.Long, .lit l4 aT1.Back.length ((flatL 0) aT1.Back)]] H lk = some (.bool r, H) := by
  refine run_start Try.func79 rfl Try.ntmps79 Try.results79 rfl rfl fun hO => ?_
  unfold f79 at hk
  refine wpL_sq (wpL_rg ?_)
  refine pBox (cs := [_, _]) hO tZ132 (fun b1 G hO => ?_)
  refine pBox (cs := [_, _, _, _, _]) hO tZ136 (fun b2 G hO => ?_)
  refine pA (.bool _) ?_
  refine pE (gn (wpL_sq (wpL_rg ?_)))
  refine pLs hO 1 [_, _] tA132 tZ132 ?_
  obtain ⟨v3, hv3, hk⟩ := bs hk
  refine pCall (fun _ => f195_run hv3) ?_
  refine pM (.bool _) ?_
  obtain ⟨t4, ht, hk⟩ := bs hk
  refine wpR_mid (l1 := [_, _, _, _]) (fun S' => ∃ J, S' = ⟨hav [(11, .bool t4)] J, G⟩) ?_ ?_
  · refine bc (b := v3) (fun hg1 => ?_) (fun hg1 => ?_)
    · replace hk := ct hg1 ht
      refine pGy hg1 ?_
      refine pLs hO 1 [_, _] tA132 tZ132 ?_
      refine pGy hg1 ?_
      refine pLs hO 0 [_, _, _, _, _] tA136 tZ136 ?_
      refine pGy hg1 ?_
      obtain ⟨v5, hv5, hk⟩ := bs hk
      refine pCall (fun _ => f196_run hv5) ?_
      refine pPt hg1 (.bool _) ?_
      cases hk; exact pE ⟨_, St.hav _ ⟨rfl, trivial⟩⟩
    · replace hk := cf hg1 ht
      refine pGn hg1 ?_
      refine pGn hg1 ?_
      refine pGn hg1 ?_
      refine pPf hg1 (.bool _) ?_
      cases hk; exact pE ⟨_, St.hav _ ⟨rfl, trivial⟩⟩
  · rintro _ ⟨J, rfl⟩
    refine pA (.bool _) ?_
    refine pE (gn (wpL_rt ?_))
    replace hk := Option.some.inj hk; subst hk; exact fin0 hO
/-- spec.l23part -/
def f298_k1 (aPiece1 : Int) (x3 : Int) (x4 : Int) : Option Part :=
  some ({ Piece := aPiece1, From := x3, To := x4 } : Part)
def f298 (aN0 : Net) (aPiece1 : Int) (aWay2 : Int) (aA3 : Int) (aB4 : Int) : Option Part :=
  (bif (aWay2 == (-1:Int)) then ((getI aN0.Pieces aPiece1).bind fun c5 => ((getI aN0.Pieces aPiece1).bind fun c6 => (f298_k1 aPiece1 (w64 (c5.Len - aB4)) (w64 (c6.Len - aA3))))) else (f298_k1 aPiece1 aA3 aB4))
theorem f298_run {aN0 : Net} {aPiece1 : Int} {aWay2 : Int} {aA3 : Int} {aB4 : Int} {r : Part} {l1 l2 m3 : Nat} {H : Heap} {lk : Lk} (hk : f298 aN0 aPiece1 aWay2 aA3 aB4 = some r) (hlk : 0 < lk.length := by simp) : runL Try.prog hh 298 [.agg [.lit l1 aN0.Pieces.length ((flatL 0) aN0.Pieces), .lit l2 aN0.Joints.length (flatL m3 aN0.Joints)], .int .i64 aPiece1, .int .i64 aWay2, .int .i64 aA3, .int .i64 aB4] H lk = some (.agg [.int .i64 r.Piece, .int .i64 r.From, .int .i64 r.To], H) := by
  refine run_start Try.func298 rfl Try.ntmps298 Try.results298 rfl rfl fun hO => ?_
  unfold f298 at hk
  refine wpL_sq (wpL_rg ?_)
  refine pBox (cs := [_, _]) hO tZ132 (fun b1 G hO => ?_)
  refine pNew hO tZ271 t0271 (fun b2 G hO => ?_)
  refine pE (gn ?_)
  refine wpL_mid (fun S' => ∃ (x3 : Int) (x4 : Int) (J : Nat → V) (G : Heap), f298_k1 aPiece1 x3 x4 = some r ∧ Owns H G [.blk b2 (.cells 3 [.int .i64 0, .int .i64 0, .int .i64 0])] ∧ S' = ⟨hav [(1, .int .i64 aPiece1), (3, .int .i64 x3), (4, .int .i64 x4), (10, .ptr b2 0)] J, G⟩) ?_ ?_
  · refine wpL_sq (wpL_rg ?_)
    refine pM (.int _ _) ?_
    refine pBi ?_
    refine pE (gn ?_)
    refine wpL_cd (b := (aWay2 == (-1:Int))) (fun hb => ?_) (fun hb => ?_)
    · replace hk := ct hb hk
      refine wpL_sq (wpL_rg ?_)
      refine pM (.int _ _) ?_
      refine pA (.int _ _) ?_
      refine pE (gn (wpL_sq (wpL_rg ?_)))
      refine pF tF132_0 ?_
      refine pLo hO 1 (.lit _ _ _) tA129 ?_
      refine pM (.int _ _) ?_
      obtain ⟨c5, hc5, hk⟩ := bs hk
      refine pX hc5 tE129 tZ266 ?_
      refine pF tF266_1 ?_
      refine pLp (.int _ _) (rd1 (lm := 0) (off := 1) hc5 tA3) ?_
      refine pM (.int _ _) ?_
      refine pBi ?_
      refine pA (.int _ _) ?_
      refine pE (gn (wpL_rg ?_))
      refine pF tF132_0 ?_
      refine pLo hO 1 (.lit _ _ _) tA129 ?_
      refine pM (.int _ _) ?_
      obtain ⟨c6, hc6, hk⟩ := bs hk
      refine pX hc6 tE129 tZ266 ?_
      refine pF tF266_1 ?_
      refine pLp (.int _ _) (rd1 (lm := 0) (off := 1) hc6 tA3) ?_
      refine pM (.int _ _) ?_
      refine pBi ?_
      refine pA (.int _ _) ?_
      refine pE (gn ?_)
      exact ⟨w64 (c5.Len - aB4), w64 (c6.Len - aA3), _, _, hk, (Owns.pick hO [0] (by decide) rfl), St.hav _ ⟨rfl, rfl, rfl, rfl, trivial⟩⟩
    · replace hk := cf hb hk
      refine wpL_sk (gn ?_)
      exact ⟨aA3, aB4, _, _, hk, (Owns.pick hO [0] (by decide) rfl), St.hav _ ⟨rfl, rfl, rfl, rfl, trivial⟩⟩
  · rintro _ ⟨x3, x4, J, G, hk, hO, rfl⟩
    refine wpL_sq (wpL_rg ?_)
    refine pM (.int _ _) ?_
    refine pM (.int _ _) ?_
    refine pM (.int _ _) ?_
    refine pBd [_, _, _] t0271 tP271 ?_
    refine pSt (xs := [_, _, _]) hO 0 tZ271 rfl (fun G hO => ?_)
    refine pE (gn (wpL_rt ?_))
    replace hk := Option.some.inj hk; subst hk; exact finZ hO (fz_agg (n := 2) (fz_c (fz_int _ _) (fz_c (fz_int _ _) (fz_c (fz_int _ _) (fz_n))))) (resS hO 0 [_, _, _] tA271 tZ271 resN)
/-- spec.l23body -/
def f206_k3 (aN0 : Net) (aT1 : Train) (x9 : Int) (x11 : Int) (x14 : Int) (x15 : List Part) : Option ((Int × Int × (List Part) × Int × Int × Int) ⊕ (List Part)) :=
  (bif (((w64 (x9 - x14)) == (0:Int)) || (x11 == (aT1.Back.length : Int))) then ((some x15).map Sum.inr) else ((getI aT1.Back x11).bind fun c17 => ((getI aN0.Pieces c17.Piece).bind fun c18 => some (.inl (c17.Piece, c17.Way, x15, w64 (x9 - x14), c18.Len, w64 (x11 + (1:Int)))))))
def f206_k2 (aN0 : Net) (aT1 : Train) (x5 : Int) (x6 : Int) (x9 : Int) (x10 : Int) (x11 : Int) (x12 : List Part) (x14 : Int) : Option ((Int × Int × (List Part) × Int × Int × Int) ⊕ (List Part)) :=
  (bif decide (x14 > (0:Int)) then ((f298 aN0 x5 x6 (w64 (x10 - x14)) x10).bind fun v19 => ((appB 24 x12 ([v19] : List Part)).bind fun z20 => (f206_k3 aN0 aT1 x9 x11 x14 z20))) else (f206_k3 aN0 aT1 x9 x11 x14 x12))
def f206_L1 (aN0 : Net) (aT1 : Train) : (Int × Int × (List Part) × Int × Int × Int) → Option ((Int × Int × (List Part) × Int × Int × Int) ⊕ (List Part)) := fun s =>
  (bif decide (s.2.2.2.2.1 > s.2.2.2.1) then (f206_k2 aN0 aT1 s.1 s.2.1 s.2.2.2.1 s.2.2.2.2.1 s.2.2.2.2.2 s.2.2.1 s.2.2.2.1) else (f206_k2 aN0 aT1 s.1 s.2.1 s.2.2.2.1 s.2.2.2.2.1 s.2.2.2.2.2 s.2.2.1 s.2.2.2.2.1))
def f206 (aN0 : Net) (aT1 : Train) : Option (List Part) :=
  ((f222 aN0 aT1.Front).bind fun v3 => (loopO (f206_L1 aN0 aT1) (aT1.Front.Piece, aT1.Front.Way, ([] : List Part), aT1.Long, v3, (0:Int))))
theorem f206_run {aN0 : Net} {aT1 : Train} {r : (List Part)} {l1 l2 m3 l4 : Nat} {H : Heap} {lk : Lk} (hk : f206 aN0 aT1 = some r) (hlk : 0 < lk.length := by simp) : runL Try.prog hh 206 [.agg [.lit l1 aN0.Pieces.length ((flatL 0) aN0.Pieces), .lit l2 aN0.Joints.length (flatL m3 aN0.Joints)], .agg [.int .i64 aT1.Front.Piece, .int .i64 aT1.Front.At, .int .i64 aT1.Front.Way, .int .i64 aT1.Long, .lit l4 aT1.Back.length ((flatL 0) aT1.Back)]] H lk = some (.lit 0 r.length ((flatL 0) r), H) := by
  refine run_start Try.func206 rfl Try.ntmps206 Try.results206 rfl rfl fun hO => ?_
  unfold f206 at hk
  refine wpL_sq (wpL_rg ?_)
  refine pBox (cs := [_, _]) hO tZ132 (fun b1 G hO => ?_)
  refine pBox (cs := [_, _, _, _, _]) hO tZ136 (fun b2 G hO => ?_)
  refine pA (.tl 0 []) ?_
  refine pE (gn (wpL_sq (wpL_rg ?_)))
  refine pA (.tl 0 []) ?_
  refine pE (gn (wpL_sq (wpL_rg ?_)))
  refine pF tF136_1 ?_
  refine pLo hO 0 (.int _ _) tA3 ?_
  refine pA (.int _ _) ?_
  refine pE (gn (wpL_sq (wpL_rg ?_)))
  refine pLs hO 1 [_, _] tA132 tZ132 ?_
  refine pF tF136_0 ?_
  refine pLs hO 0 [_, _, _] tA134 tZ134 ?_
  obtain ⟨v3, hv3, hk⟩ := bs hk
  refine pCall (fun _ => f222_run hv3) ?_
  refine pA (.int _ _) ?_
  refine pE (gn (wpL_sq (wpL_rg ?_)))
  refine pF tF136_0 ?_
  refine pF tF134_0 ?_
  refine pLo hO 0 (.int _ _) tA3 ?_
  refine pF tF136_0 ?_
  refine pF tF134_2 ?_
  refine pLo hO 0 (.int _ _) tA3 ?_
  refine pBd [_, _] t0258 tP258 ?_
  refine pNew hO tZ258 t0258 (fun b4 G hO => ?_)
  refine pSt (xs := [_, _]) hO 0 tZ258 rfl (fun G hO => ?_)
  refine pE (gn (wpL_sq (wpL_rg ?_)))
  refine pA (.int _ _) ?_
  refine pE (gn (wpL_bl ?_))
  refine wpL_loopO (F := f206_L1 aN0 aT1) (fun s S' => ∃ (o7 : V) (J : Nat → V) (G : Heap), Owns H G [.blk b4 (.cells 2 [.int .i64 s.1, .int .i64 s.2.1]), .blk b2 (.cells 5 [.int .i64 aT1.Front.Piece, .int .i64 aT1.Front.At, .int .i64 aT1.Front.Way, .int .i64 aT1.Long, .lit l4 aT1.Back.length ((flatL 0) aT1.Back)]), .blk b1 (.cells 2 [.lit l1 aN0.Pieces.length ((flatL 0) aN0.Pieces), .lit l2 aN0.Joints.length (flatL m3 aN0.Joints)]), .own o7 lk.length 3 s.2.2.1.length ((flatL 0) s.2.2.1)] ∧ S' = ⟨hav [(2, .ptr b1 0), (3, .ptr b2 0), (5, o7), (6, .int .i64 s.2.2.2.1), (7, .int .i64 s.2.2.2.2.1), (8, .ptr b4 0), (9, .int .i64 s.2.2.2.2.2)] J, G⟩) hk ⟨(.tl 0 []), _, _, (Owns.pick (Owns.addTl hO lk.length ([] : List Part)) [1, 2, 3, 0] (by decide) rfl), St.hav _ ⟨rfl, rfl, rfl, rfl, rfl, rfl, rfl, trivial⟩⟩ ?_
  rintro ⟨x5, x6, x7, x9, x10, x11⟩ _ y1 ⟨o7, J, G, hO, rfl⟩ hk hx1
  refine wpL_sq (wpL_bl (wpL_sq (wpL_rg ?_)))
  refine pM (.int _ _) ?_
  refine pA (.int _ _) ?_
  refine pE (gn ?_)
  refine wpL_mid (fun S' => ∃ (x12 : List Part) (x14 : Int) (o12 : V) (J : Nat → V) (G : Heap), f206_k2 aN0 aT1 x5 x6 x9 x10 x11 x12 x14 = some y1 ∧ Owns H G [.blk b4 (.cells 2 [.int .i64 x5, .int .i64 x6]), .blk b2 (.cells 5 [.int .i64 aT1.Front.Piece, .int .i64 aT1.Front.At, .int .i64 aT1.Front.Way, .int .i64 aT1.Long, .lit l4 aT1.Back.length ((flatL 0) aT1.Back)]), .blk b1 (.cells 2 [.lit l1 aN0.Pieces.length ((flatL 0) aN0.Pieces), .lit l2 aN0.Joints.length (flatL m3 aN0.Joints)]), .own o12 lk.length 3 x12.length ((flatL 0) x12)] ∧ S' = ⟨hav [(2, .ptr b1 0), (3, .ptr b2 0), (5, o12), (6, .int .i64 x9), (7, .int .i64 x10), (8, .ptr b4 0), (9, .int .i64 x11), (10, .int .i64 x14)] J, G⟩) ?_ ?_
  · refine wpL_sq (wpL_rg ?_)
    refine pM (.int _ _) ?_
    refine pM (.int _ _) ?_
    refine pBi ?_
    refine pE (gn ?_)
    refine wpL_cd (b := decide (x10 > x9)) (fun hb => ?_) (fun hb => ?_)
    · replace hk := ct hb hk
      refine wpL_rg ?_
      refine pM (.int _ _) ?_
      refine pA (.int _ _) ?_
      refine pE (gn ?_)
      exact ⟨x7, x9, o7, _, _, hk, hO, St.hav _ ⟨rfl, rfl, rfl, rfl, rfl, rfl, rfl, rfl, trivial⟩⟩
    · replace hk := cf hb hk
      refine wpL_sk (gn ?_)
      exact ⟨x7, x10, o7, _, _, hk, hO, St.hav _ ⟨rfl, rfl, rfl, rfl, rfl, rfl, rfl, rfl, trivial⟩⟩
  · rintro _ ⟨x12, x14, o12, J, G, hk, hO, rfl⟩
    refine wpL_mid (fun S' => ∃ (x15 : List Part) (o15 : V) (J : Nat → V) (G : Heap), f206_k3 aN0 aT1 x9 x11 x14 x15 = some y1 ∧ Owns H G [.blk b4 (.cells 2 [.int .i64 x5, .int .i64 x6]), .blk b2 (.cells 5 [.int .i64 aT1.Front.Piece, .int .i64 aT1.Front.At, .int .i64 aT1.Front.Way, .int .i64 aT1.Long, .lit l4 aT1.Back.length ((flatL 0) aT1.Back)]), .blk b1 (.cells 2 [.lit l1 aN0.Pieces.length ((flatL 0) aN0.Pieces), .lit l2 aN0.Joints.length (flatL m3 aN0.Joints)]), .own o15 lk.length 3 x15.length ((flatL 0) x15)] ∧ S' = ⟨hav [(2, .ptr b1 0), (3, .ptr b2 0), (5, o15), (6, .int .i64 x9), (8, .ptr b4 0), (9, .int .i64 x11), (10, .int .i64 x14)] J, G⟩) ?_ ?_
    · refine wpL_sq (wpL_rg ?_)
      refine pM (.int _ _) ?_
      refine pBi ?_
      refine pE (gn ?_)
      refine wpL_cd (b := decide (x14 > (0:Int))) (fun hb => ?_) (fun hb => ?_)
      · replace hk := ct hb hk
        refine wpL_rg ?_
        refine pM o12 ?_
        refine pLs hO 2 [_, _] tA132 tZ132 ?_
        refine pF tF258_0 ?_
        refine pLo hO 0 (.int _ _) tA3 ?_
        refine pF tF258_1 ?_
        refine pLo hO 0 (.int _ _) tA3 ?_
        refine pM (.int _ _) ?_
        refine pM (.int _ _) ?_
        refine pBi ?_
        refine pM (.int _ _) ?_
        obtain ⟨v19, hv19, hk⟩ := bs hk
        refine pCall (fun _ => f298_run hv19) ?_
        refine pBs (ps := [(0, (.agg [_, _, _]))]) ([v19] : List Part) tE65 tZ271 t0271 (emb_cons (embx_agg (α := Part) v19) (emb_nil)) ?_
        obtain ⟨z20, hz20, hk⟩ := bs hk
        refine pAp (xs := x12) hO 3 hz20 (bears_tl ([v19] : List Part)) tE65 tZ271 tB271 t0271 tE65 rfl (fun o20 G hno20 hO => ?_)
        refine pA o20 ?_
        refine pE (gn ?_)
        exact ⟨z20, o20, _, _, hk, hO, St.hav _ ⟨rfl, rfl, rfl, rfl, rfl, rfl, rfl, trivial⟩⟩
      · replace hk := cf hb hk
        refine wpL_sk (gn ?_)
        exact ⟨x12, o12, _, _, hk, hO, St.hav _ ⟨rfl, rfl, rfl, rfl, rfl, rfl, rfl, trivial⟩⟩
    · rintro _ ⟨x15, o15, J, G, hk, hO, rfl⟩
      refine wpL_sq (wpL_rg ?_)
      refine pM (.int _ _) ?_
      refine pM (.int _ _) ?_
      refine pBi ?_
      refine pA (.int _ _) ?_
      refine pE (gn (wpL_sq (wpL_sq (wpL_rg ?_))))
      refine pM (.int _ _) ?_
      refine pBi ?_
      refine pM (.bool _) ?_
      refine wpR_mid (l1 := [_, _, _, _, _, _]) (fun S' => ∃ J, S' = ⟨hav [(2, .ptr b1 0), (3, .ptr b2 0), (5, o15), (6, .int .i64 (w64 (x9 - x14))), (8, .ptr b4 0), (9, .int .i64 x11), (57, .bool (((w64 (x9 - x14)) == (0:Int)) || (x11 == (aT1.Back.length : Int))))] J, G⟩) ?_ ?_
      · refine bc (b := ((w64 (x9 - x14)) == (0:Int))) (fun hg1 => ?_) (fun hg1 => ?_)
        · refine pGn hg1 ?_
          refine pGn hg1 ?_
          refine pGn hg1 ?_
          refine pGn hg1 ?_
          refine pGn hg1 ?_
          refine pPt hg1 (.bool _) ?_
          exact pE ⟨_, St.hav _ ⟨rfl, rfl, rfl, rfl, rfl, rfl, by rw [hg1]; rfl, trivial⟩⟩
        · refine pGy hg1 ?_
          refine pM (.int _ _) ?_
          refine pGy hg1 ?_
          refine pF tF136_2 ?_
          refine pGy hg1 ?_
          refine pLo hO 1 (.lit _ _ _) tA63 ?_
          refine pGy hg1 ?_
          refine pLen tS63 ?_
          refine pGy hg1 ?_
          refine pBi ?_
          refine pPf hg1 (.bool _) ?_
          exact pE ⟨_, St.hav _ ⟨rfl, rfl, rfl, rfl, rfl, rfl, by rw [hg1]; rfl, trivial⟩⟩
      · rintro _ ⟨J, rfl⟩
        refine pE (gn ?_)
        refine wpL_cd (b := (((w64 (x9 - x14)) == (0:Int)) || (x11 == (aT1.Back.length : Int)))) (fun hb => ?_) (fun hb => ?_)
        · replace hk := ct hb hk
          refine wpL_sq (wpL_rg ?_)
          refine pM o15 ?_
          refine pA o15 ?_
          refine pE (gn (wpL_rt (gr (br (gr (gr (br ?_)))))))
          replace hk := lx hx1 hk
          replace hk := Option.some.inj hk; subst hk; exact finZ hO (fz_own (xs := x15) hlk 3) (resT o15 resN)
        · replace hk := cf hb hk
          refine wpL_sk (gn (wpL_sq (wpL_rg ?_)))
          refine pF tF136_2 ?_
          refine pLo hO 1 (.lit _ _ _) tA63 ?_
          refine pM (.int _ _) ?_
          obtain ⟨c17, hc17, hk⟩ := bs hk
          refine pX hc17 tE63 tZ258 ?_
          refine pLp (.agg [_, _]) (rd2 (lm := 0) (off := 0) hc17 tA258 tZ258) ?_
          refine pSt (xs := [_, _]) hO 0 tZ258 rfl (fun G hO => ?_)
          refine pE (gn (wpL_rg ?_))
          refine pF tF132_0 ?_
          refine pLo hO 2 (.lit _ _ _) tA129 ?_
          refine pF tF258_0 ?_
          refine pLo hO 0 (.int _ _) tA3 ?_
          obtain ⟨c18, hc18, hk⟩ := bs hk
          refine pX hc18 tE129 tZ266 ?_
          refine pF tF266_1 ?_
          refine pLp (.int _ _) (rd1 (lm := 0) (off := 1) hc18 tA3) ?_
          refine pA (.int _ _) ?_
          refine pE (bn (gn (wpL_rg ?_)))
          refine pM (.int _ _) ?_
          refine pBi ?_
          refine pA (.int _ _) ?_
          refine pE (gn ?_)
          cases hk; exact ⟨_, rfl, o15, _, _, hO, St.hav _ ⟨rfl, rfl, rfl, rfl, rfl, rfl, rfl, trivial⟩⟩
/-- spec.Body -/
def f110 (aN0 : Net) (aT1 : Train) : Option (List Part) :=
  ((f79 aN0 aT1).bind fun v3 => (bif !v3 then some ([] : List Part) else ((f206 aN0 aT1).bind fun v4 => some v4)))
theorem f110_run {aN0 : Net} {aT1 : Train} {r : (List Part)} {l1 l2 m3 l4 : Nat} {H : Heap} {lk : Lk} (hk : f110 aN0 aT1 = some r) (hlk : 0 < lk.length := by simp) : runL Try.prog hh 110 [.agg [.lit l1 aN0.Pieces.length ((flatL 0) aN0.Pieces), .lit l2 aN0.Joints.length (flatL m3 aN0.Joints)], .agg [.int .i64 aT1.Front.Piece, .int .i64 aT1.Front.At, .int .i64 aT1.Front.Way, .int .i64 aT1.Long, .lit l4 aT1.Back.length ((flatL 0) aT1.Back)]] H lk = some (.lit 0 r.length ((flatL 0) r), H) := by
  refine run_start Try.func110 rfl Try.ntmps110 Try.results110 rfl rfl fun hO => ?_
  unfold f110 at hk
  refine wpL_sq (wpL_rg ?_)
  refine pBox (cs := [_, _]) hO tZ132 (fun b1 G hO => ?_)
  refine pBox (cs := [_, _, _, _, _]) hO tZ136 (fun b2 G hO => ?_)
  refine pA (.tl 0 []) ?_
  refine pE (gn (wpL_sq (wpL_sq (wpL_rg ?_))))
  refine pLs hO 1 [_, _] tA132 tZ132 ?_
  refine pLs hO 0 [_, _, _, _, _] tA136 tZ136 ?_
  obtain ⟨v3, hv3, hk⟩ := bs hk
  refine pCall (fun _ => f79_run hv3) ?_
  refine pU ?_
  refine pE (gn ?_)
  refine wpL_cd (b := !v3) (fun hb => ?_) (fun hb => ?_)
  · replace hk := ct hb hk
    refine wpL_sq (wpL_rg ?_)
    refine pA (.tl 0 []) ?_
    refine pE (gn (wpL_rt (gr ?_)))
    replace hk := Option.some.inj hk; subst hk; exact finZ hO (fz_nil (k := 0) Part) (resT (.tl 0 []) resN)
  · replace hk := cf hb hk
    refine wpL_sk (gn (wpL_sq (wpL_rg ?_)))
    refine pLs hO 1 [_, _] tA132 tZ132 ?_
    refine pLs hO 0 [_, _, _, _, _] tA136 tZ136 ?_
    obtain ⟨v4, hv4, hk⟩ := bs hk
    refine pCall (fun _ => f206_run hv4) ?_
    refine pA (.lit _ _ _) ?_
    refine pE (gn (wpL_rt ?_))
    replace hk := Option.some.inj hk; subst hk; exact finZ hO (fz_lit hlk v4) (resT (.lit _ _ _) resN)
/-- impl.named -/
def f335_L1 (aS0 : ByteArray) : Int → Option (Int ⊕ Bool) := fun s =>
  (bif decide (s < (aS0.size : Int)) then ((byteAt aS0 s).bind fun c2 => (bif !(((decide (c2 ≥ (97:Int)) && decide (c2 ≤ (122:Int))) || (decide (c2 ≥ (48:Int)) && decide (c2 ≤ (57:Int)))) || (c2 == (95:Int))) then ((some false).map Sum.inr) else some (.inl (w64 (s + (1:Int)))))) else ((some true).map Sum.inr))
def f335 (aS0 : ByteArray) : Option Bool :=
  (bif (decide ((aS0.size : Int) < (1:Int)) || decide ((aS0.size : Int) > (20:Int))) then some false else (loopO (f335_L1 aS0) ((0:Int))))
theorem f335_run {aS0 : ByteArray} {r : Bool} {H : Heap} {lk : Lk} (hk : f335 aS0 = some r) (hlk : 0 < lk.length := by simp) : runL Try.prog hh 335 [.str aS0] H lk = some (.bool r, H) := by
  refine run_start Try.func335 rfl Try.ntmps335 Try.results335 rfl rfl fun hO => ?_
  unfold f335 at hk
  refine wpL_sq (wpL_rg ?_)
  refine pA (.bool _) ?_
  refine pE (gn (wpL_sq (wpL_sq (wpL_rg ?_))))
  refine pM (.str _) ?_
  refine pLen tS9 ?_
  refine pBi ?_
  refine pM (.bool _) ?_
  refine wpR_mid (l1 := [_, _, _, _]) (fun S' => ∃ J, S' = ⟨hav [(0, .str aS0), (12, .bool (decide ((aS0.size : Int) < (1:Int)) || decide ((aS0.size : Int) > (20:Int))))] J, H⟩) ?_ ?_
  · refine bc (b := decide ((aS0.size : Int) < (1:Int))) (fun hg1 => ?_) (fun hg1 => ?_)
    · refine pGn hg1 ?_
      refine pGn hg1 ?_
      refine pGn hg1 ?_
      refine pPt hg1 (.bool _) ?_
      exact pE ⟨_, St.hav _ ⟨rfl, by rw [hg1]; rfl, trivial⟩⟩
    · refine pGy hg1 ?_
      refine pM (.str _) ?_
      refine pGy hg1 ?_
      refine pLen tS9 ?_
      refine pGy hg1 ?_
      refine pBi ?_
      refine pPf hg1 (.bool _) ?_
      exact pE ⟨_, St.hav _ ⟨rfl, by rw [hg1]; rfl, trivial⟩⟩
  · rintro _ ⟨J, rfl⟩
    refine pE (gn ?_)
    refine wpL_cd (b := (decide ((aS0.size : Int) < (1:Int)) || decide ((aS0.size : Int) > (20:Int)))) (fun hb => ?_) (fun hb => ?_)
    · replace hk := ct hb hk
      refine wpL_sq (wpL_rg ?_)
      refine pA (.bool _) ?_
      refine pE (gn (wpL_rt (gr ?_)))
      replace hk := Option.some.inj hk; subst hk; exact fin0 hO
    · replace hk := cf hb hk
      refine wpL_sk (gn (wpL_sq (wpL_sq (wpL_rg ?_))))
      refine pA (.int _ _) ?_
      refine pE (gn (wpL_bl ?_))
      refine wpL_loopO (F := f335_L1 aS0) (fun s S' => ∃ (J : Nat → V) (G : Heap), Owns H G [] ∧ S' = ⟨hav [(0, .str aS0), (3, .int .i64 s)] J, G⟩) hk ⟨_, _, hO, St.hav _ ⟨rfl, rfl, trivial⟩⟩ ?_
      rintro x1 _ y1 ⟨J, G, hO, rfl⟩ hk hx1
      refine wpL_sq (wpL_sq (wpL_rg ?_))
      refine pM (.int _ _) ?_
      refine pM (.str _) ?_
      refine pLen tS9 ?_
      refine pBi ?_
      refine pE (gn ?_)
      refine wpL_cd (b := decide (x1 < (aS0.size : Int))) (fun hb => ?_) (fun hb => ?_)
      · replace hk := ct hb hk
        refine wpL_sk (gn (wpL_sq (wpL_bl (wpL_sq (wpL_rg ?_)))))
        refine pM (.str _) ?_
        refine pM (.int _ _) ?_
        obtain ⟨c2, hc2, hk⟩ := bs hk
        refine pIx Try.underlying9 hc2 ?_
        refine pA (.int _ _) ?_
        refine pE (gn (wpL_sq (wpL_rg ?_)))
        refine pM (.int _ _) ?_
        refine pBi ?_
        refine pM (.bool _) ?_
        refine wpR_mid (l1 := [_, _, _]) (fun S' => ∃ J, S' = ⟨hav [(0, .str aS0), (3, .int .i64 x1), (4, .int .u8 c2), (27, .bool (decide (c2 ≥ (97:Int)) && decide (c2 ≤ (122:Int))))] J, G⟩) ?_ ?_
        · refine bc (b := decide (c2 ≥ (97:Int))) (fun hg1 => ?_) (fun hg1 => ?_)
          · refine pGy hg1 ?_
            refine pM (.int _ _) ?_
            refine pGy hg1 ?_
            refine pBi ?_
            refine pPt hg1 (.bool _) ?_
            exact pE ⟨_, St.hav _ ⟨rfl, rfl, rfl, by rw [hg1]; rfl, trivial⟩⟩
          · refine pGn hg1 ?_
            refine pGn hg1 ?_
            refine pPf hg1 (.bool _) ?_
            exact pE ⟨_, St.hav _ ⟨rfl, rfl, rfl, by rw [hg1]; rfl, trivial⟩⟩
        · rintro _ ⟨J, rfl⟩
          refine pM (.bool _) ?_
          refine wpR_mid (l1 := [_, _, _, _, _, _, _]) (fun S' => ∃ J, S' = ⟨hav [(0, .str aS0), (3, .int .i64 x1), (4, .int .u8 c2), (35, .bool ((decide (c2 ≥ (97:Int)) && decide (c2 ≤ (122:Int))) || (decide (c2 ≥ (48:Int)) && decide (c2 ≤ (57:Int)))))] J, G⟩) ?_ ?_
          · refine bc (b := (decide (c2 ≥ (97:Int)) && decide (c2 ≤ (122:Int)))) (fun hg1 => ?_) (fun hg1 => ?_)
            · refine pGn hg1 ?_
              refine pGn hg1 ?_
              refine pGn hg1 ?_
              refine pGu ?_
              refine pGu ?_
              refine pGn hg1 ?_
              refine pPt hg1 (.bool _) ?_
              exact pE ⟨_, St.hav _ ⟨rfl, rfl, rfl, by rw [hg1]; rfl, trivial⟩⟩
            · refine pGy hg1 ?_
              refine pM (.int _ _) ?_
              refine pGy hg1 ?_
              refine pBi ?_
              refine pGy hg1 ?_
              refine pM (.bool _) ?_
              refine wpR_mid (l1 := [_, _, _]) (fun S' => ∃ J, S' = ⟨hav [(0, .str aS0), (3, .int .i64 x1), (4, .int .u8 c2), (28, .bool (decide (c2 ≥ (97:Int)) && decide (c2 ≤ (122:Int)))), (34, .bool (decide (c2 ≥ (48:Int)) && decide (c2 ≤ (57:Int))))] J, G⟩) ?_ ?_
              · refine bc (b := decide (c2 ≥ (48:Int))) (fun hg2 => ?_) (fun hg2 => ?_)
                · refine pGy hg2 ?_
                  refine pM (.int _ _) ?_
                  refine pGy hg2 ?_
                  refine pBi ?_
                  refine pGy hg1 ?_
                  refine pPt hg2 (.bool _) ?_
                  exact pE ⟨_, St.hav _ ⟨rfl, rfl, rfl, rfl, by rw [hg2]; rfl, trivial⟩⟩
                · refine pGn hg2 ?_
                  refine pGn hg2 ?_
                  refine pGy hg1 ?_
                  refine pPf hg2 (.bool _) ?_
                  exact pE ⟨_, St.hav _ ⟨rfl, rfl, rfl, rfl, by rw [hg2]; rfl, trivial⟩⟩
              · rintro _ ⟨J, rfl⟩
                refine pPf hg1 (.bool _) ?_
                exact pE ⟨_, St.hav _ ⟨rfl, rfl, rfl, by rw [hg1]; rfl, trivial⟩⟩
          · rintro _ ⟨J, rfl⟩
            refine pM (.bool _) ?_
            refine wpR_mid (l1 := [_, _, _]) (fun S' => ∃ J, S' = ⟨hav [(0, .str aS0), (3, .int .i64 x1), (39, .bool (((decide (c2 ≥ (97:Int)) && decide (c2 ≤ (122:Int))) || (decide (c2 ≥ (48:Int)) && decide (c2 ≤ (57:Int)))) || (c2 == (95:Int))))] J, G⟩) ?_ ?_
            · refine bc (b := ((decide (c2 ≥ (97:Int)) && decide (c2 ≤ (122:Int))) || (decide (c2 ≥ (48:Int)) && decide (c2 ≤ (57:Int))))) (fun hg1 => ?_) (fun hg1 => ?_)
              · refine pGn hg1 ?_
                refine pGn hg1 ?_
                refine pPt hg1 (.bool _) ?_
                exact pE ⟨_, St.hav _ ⟨rfl, rfl, by rw [hg1]; rfl, trivial⟩⟩
              · refine pGy hg1 ?_
                refine pM (.int _ _) ?_
                refine pGy hg1 ?_
                refine pBi ?_
                refine pPf hg1 (.bool _) ?_
                exact pE ⟨_, St.hav _ ⟨rfl, rfl, by rw [hg1]; rfl, trivial⟩⟩
            · rintro _ ⟨J, rfl⟩
              refine pU ?_
              refine pE (gn ?_)
              refine wpL_cd (b := !(((decide (c2 ≥ (97:Int)) && decide (c2 ≤ (122:Int))) || (decide (c2 ≥ (48:Int)) && decide (c2 ≤ (57:Int)))) || (c2 == (95:Int)))) (fun hb => ?_) (fun hb => ?_)
              · replace hk := ct hb hk
                refine wpL_sq (wpL_rg ?_)
                refine pA (.bool _) ?_
                refine pE (gn (wpL_rt (br (gr (gr (br (gr ?_)))))))
                replace hk := lx hx1 hk
                replace hk := Option.some.inj hk; subst hk; exact fin0 hO
              · replace hk := cf hb hk
                refine wpL_sk (bn (gn (wpL_rg ?_)))
                refine pM (.int _ _) ?_
                refine pBi ?_
                refine pA (.int _ _) ?_
                refine pE (gn ?_)
                cases hk; exact ⟨_, rfl, _, _, hO, St.hav _ ⟨rfl, rfl, trivial⟩⟩
      · replace hk := cf hb hk
        refine wpL_ex (ge (ge (be (gn ?_))))
        replace hk := lx hx1 hk
        refine wpL_sq (wpL_rg ?_)
        refine pA (.bool _) ?_
        refine pE (gn (wpL_rt ?_))
        replace hk := Option.some.inj hk; subst hk; exact fin0 hO
/-- impl.pieceOk -/
def f334 (aP0 : Piece) : Option Bool :=
  ((f335 aP0.Name).bind fun v2 => some ((((((v2 && decide (aP0.Len ≥ (1:Int))) && decide (aP0.Len ≤ (10000000:Int))) && decide (aP0.Speed ≥ (1:Int))) && decide (aP0.Speed ≤ (10000:Int))) && decide (aP0.Brake ≥ (1:Int))) && decide (aP0.Brake ≤ (1000:Int))))
theorem f334_run {aP0 : Piece} {r : Bool} {H : Heap} {lk : Lk} (hk : f334 aP0 = some r) (hlk : 0 < lk.length := by simp) : runL Try.prog hh 334 [.agg [.str aP0.Name, .int .i64 aP0.Len, .int .i64 aP0.Speed, .int .i64 aP0.Brake]] H lk = some (.bool r, H) := by
  refine run_start Try.func334 rfl Try.ntmps334 Try.results334 rfl rfl fun hO => ?_
  unfold f334 at hk
  refine wpL_sq (wpL_rg ?_)
  refine pBox (cs := [_, _, _, _]) hO tZ266 (fun b1 G hO => ?_)
  refine pA (.bool _) ?_
  refine pE (gn (wpL_sq (wpL_rg ?_)))
  refine pF tF266_0 ?_
  refine pLo hO 0 (.str _) tA9 ?_
  obtain ⟨v2, hv2, hk⟩ := bs hk
  refine pCall (fun _ => f335_run hv2) ?_
  refine pM (.bool _) ?_
  refine wpR_mid (l1 := [_, _, _, _]) (fun S' => ∃ J, S' = ⟨hav [(1, .ptr b1 0), (10, .bool (v2 && decide (aP0.Len ≥ (1:Int))))] J, G⟩) ?_ ?_
  · refine bc (b := v2) (fun hg1 => ?_) (fun hg1 => ?_)
    · refine pGy hg1 ?_
      refine pF tF266_1 ?_
      refine pGy hg1 ?_
      refine pLo hO 0 (.int _ _) tA3 ?_
      refine pGy hg1 ?_
      refine pBi ?_
      refine pPt hg1 (.bool _) ?_
      exact pE ⟨_, St.hav _ ⟨rfl, by rw [hg1]; rfl, trivial⟩⟩
    · refine pGn hg1 ?_
      refine pGn hg1 ?_
      refine pGn hg1 ?_
      refine pPf hg1 (.bool _) ?_
      exact pE ⟨_, St.hav _ ⟨rfl, by rw [hg1]; rfl, trivial⟩⟩
  · rintro _ ⟨J, rfl⟩
    refine pM (.bool _) ?_
    refine wpR_mid (l1 := [_, _, _, _]) (fun S' => ∃ J, S' = ⟨hav [(1, .ptr b1 0), (15, .bool ((v2 && decide (aP0.Len ≥ (1:Int))) && decide (aP0.Len ≤ (10000000:Int))))] J, G⟩) ?_ ?_
    · refine bc (b := (v2 && decide (aP0.Len ≥ (1:Int)))) (fun hg1 => ?_) (fun hg1 => ?_)
      · refine pGy hg1 ?_
        refine pF tF266_1 ?_
        refine pGy hg1 ?_
        refine pLo hO 0 (.int _ _) tA3 ?_
        refine pGy hg1 ?_
        refine pBi ?_
        refine pPt hg1 (.bool _) ?_
        exact pE ⟨_, St.hav _ ⟨rfl, by rw [hg1]; rfl, trivial⟩⟩
      · refine pGn hg1 ?_
        refine pGn hg1 ?_
        refine pGn hg1 ?_
        refine pPf hg1 (.bool _) ?_
        exact pE ⟨_, St.hav _ ⟨rfl, by rw [hg1]; rfl, trivial⟩⟩
    · rintro _ ⟨J, rfl⟩
      refine pM (.bool _) ?_
      refine wpR_mid (l1 := [_, _, _, _]) (fun S' => ∃ J, S' = ⟨hav [(1, .ptr b1 0), (20, .bool (((v2 && decide (aP0.Len ≥ (1:Int))) && decide (aP0.Len ≤ (10000000:Int))) && decide (aP0.Speed ≥ (1:Int))))] J, G⟩) ?_ ?_
      · refine bc (b := ((v2 && decide (aP0.Len ≥ (1:Int))) && decide (aP0.Len ≤ (10000000:Int)))) (fun hg1 => ?_) (fun hg1 => ?_)
        · refine pGy hg1 ?_
          refine pF tF266_2 ?_
          refine pGy hg1 ?_
          refine pLo hO 0 (.int _ _) tA3 ?_
          refine pGy hg1 ?_
          refine pBi ?_
          refine pPt hg1 (.bool _) ?_
          exact pE ⟨_, St.hav _ ⟨rfl, by rw [hg1]; rfl, trivial⟩⟩
        · refine pGn hg1 ?_
          refine pGn hg1 ?_
          refine pGn hg1 ?_
          refine pPf hg1 (.bool _) ?_
          exact pE ⟨_, St.hav _ ⟨rfl, by rw [hg1]; rfl, trivial⟩⟩
      · rintro _ ⟨J, rfl⟩
        refine pM (.bool _) ?_
        refine wpR_mid (l1 := [_, _, _, _]) (fun S' => ∃ J, S' = ⟨hav [(1, .ptr b1 0), (25, .bool ((((v2 && decide (aP0.Len ≥ (1:Int))) && decide (aP0.Len ≤ (10000000:Int))) && decide (aP0.Speed ≥ (1:Int))) && decide (aP0.Speed ≤ (10000:Int))))] J, G⟩) ?_ ?_
        · refine bc (b := (((v2 && decide (aP0.Len ≥ (1:Int))) && decide (aP0.Len ≤ (10000000:Int))) && decide (aP0.Speed ≥ (1:Int)))) (fun hg1 => ?_) (fun hg1 => ?_)
          · refine pGy hg1 ?_
            refine pF tF266_2 ?_
            refine pGy hg1 ?_
            refine pLo hO 0 (.int _ _) tA3 ?_
            refine pGy hg1 ?_
            refine pBi ?_
            refine pPt hg1 (.bool _) ?_
            exact pE ⟨_, St.hav _ ⟨rfl, by rw [hg1]; rfl, trivial⟩⟩
          · refine pGn hg1 ?_
            refine pGn hg1 ?_
            refine pGn hg1 ?_
            refine pPf hg1 (.bool _) ?_
            exact pE ⟨_, St.hav _ ⟨rfl, by rw [hg1]; rfl, trivial⟩⟩
        · rintro _ ⟨J, rfl⟩
          refine pM (.bool _) ?_
          refine wpR_mid (l1 := [_, _, _, _]) (fun S' => ∃ J, S' = ⟨hav [(1, .ptr b1 0), (30, .bool (((((v2 && decide (aP0.Len ≥ (1:Int))) && decide (aP0.Len ≤ (10000000:Int))) && decide (aP0.Speed ≥ (1:Int))) && decide (aP0.Speed ≤ (10000:Int))) && decide (aP0.Brake ≥ (1:Int))))] J, G⟩) ?_ ?_
          · refine bc (b := ((((v2 && decide (aP0.Len ≥ (1:Int))) && decide (aP0.Len ≤ (10000000:Int))) && decide (aP0.Speed ≥ (1:Int))) && decide (aP0.Speed ≤ (10000:Int)))) (fun hg1 => ?_) (fun hg1 => ?_)
            · refine pGy hg1 ?_
              refine pF tF266_3 ?_
              refine pGy hg1 ?_
              refine pLo hO 0 (.int _ _) tA3 ?_
              refine pGy hg1 ?_
              refine pBi ?_
              refine pPt hg1 (.bool _) ?_
              exact pE ⟨_, St.hav _ ⟨rfl, by rw [hg1]; rfl, trivial⟩⟩
            · refine pGn hg1 ?_
              refine pGn hg1 ?_
              refine pGn hg1 ?_
              refine pPf hg1 (.bool _) ?_
              exact pE ⟨_, St.hav _ ⟨rfl, by rw [hg1]; rfl, trivial⟩⟩
          · rintro _ ⟨J, rfl⟩
            refine pM (.bool _) ?_
            refine wpR_mid (l1 := [_, _, _, _]) (fun S' => ∃ J, S' = ⟨hav [(35, .bool ((((((v2 && decide (aP0.Len ≥ (1:Int))) && decide (aP0.Len ≤ (10000000:Int))) && decide (aP0.Speed ≥ (1:Int))) && decide (aP0.Speed ≤ (10000:Int))) && decide (aP0.Brake ≥ (1:Int))) && decide (aP0.Brake ≤ (1000:Int))))] J, G⟩) ?_ ?_
            · refine bc (b := (((((v2 && decide (aP0.Len ≥ (1:Int))) && decide (aP0.Len ≤ (10000000:Int))) && decide (aP0.Speed ≥ (1:Int))) && decide (aP0.Speed ≤ (10000:Int))) && decide (aP0.Brake ≥ (1:Int)))) (fun hg1 => ?_) (fun hg1 => ?_)
              · refine pGy hg1 ?_
                refine pF tF266_3 ?_
                refine pGy hg1 ?_
                refine pLo hO 0 (.int _ _) tA3 ?_
                refine pGy hg1 ?_
                refine pBi ?_
                refine pPt hg1 (.bool _) ?_
                exact pE ⟨_, St.hav _ ⟨by rw [hg1]; rfl, trivial⟩⟩
              · refine pGn hg1 ?_
                refine pGn hg1 ?_
                refine pGn hg1 ?_
                refine pPf hg1 (.bool _) ?_
                exact pE ⟨_, St.hav _ ⟨by rw [hg1]; rfl, trivial⟩⟩
            · rintro _ ⟨J, rfl⟩
              refine pA (.bool _) ?_
              refine pE (gn (wpL_rt ?_))
              replace hk := Option.some.inj hk; subst hk; exact fin0 hO
/-- impl.NetOk -/
def f288_L3 (aN0 : Net) (x9 : Int) (c10 : Joint) : Int → Option (Int ⊕ (Int ⊕ Fault)) := fun s =>
  (bif decide (s < (c10.Ends.length : Int)) then ((getI c10.Ends s).bind fun c13 => (bif (((decide (c13.Piece < (0:Int)) || decide (c13.Piece ≥ (aN0.Pieces.length : Int))) || decide (c13.Side < (0:Int))) || decide (c13.Side > (1:Int))) then (((some ({ Code := (3:Int), At := x9 } : Fault)).map Sum.inr).map Sum.inr) else some (.inl (w64 (s + (1:Int)))))) else ((some (.inl (w64 (x9 + (1:Int))))).map Sum.inr))
def f288_k5 (x17 : Int) (x18 : List (ByteArray × Bool)) : Option (((List (ByteArray × Bool)) × Int) ⊕ Fault) :=
  some (.inl (x18, w64 (x17 + (1:Int))))
def f288_L7 (x24 : Int) (c25 : Joint) : ((List (End × Int)) × Int) → Option (((List (End × Int)) × Int) ⊕ (((List (End × Int)) × Int) ⊕ Fault)) := fun s =>
  (bif decide (s.2 < (c25.Ends.length : Int)) then ((getI c25.Ends s.2).bind fun c29 => some (.inl (mset c29 (w64 ((mget c29 s.1 0) + (1:Int))) s.1, w64 (s.2 + (1:Int))))) else ((some (.inl (s.1, w64 (x24 + (1:Int))))).map Sum.inr))
def f288_L8 (aN0 : Net) (x23 : List (End × Int)) : Int → Option (Int ⊕ Fault) := fun s =>
  (bif decide (s < (aN0.Pieces.length : Int)) then (bif (((mget ({ Piece := s, Side := (0:Int) } : End) x23 0) != (1:Int)) || ((mget ({ Piece := s, Side := (1:Int) } : End) x23 0) != (1:Int))) then ((some ({ Code := (5:Int), At := s } : Fault)).map Sum.inr) else some (.inl (w64 (s + (1:Int))))) else ((some ({ Code := 0, At := 0 } : Fault)).map Sum.inr))
def f288_L6 (aN0 : Net) : ((List (End × Int)) × Int) → Option (((List (End × Int)) × Int) ⊕ Fault) := fun s =>
  (bif decide (s.2 < (aN0.Joints.length : Int)) then ((getI aN0.Joints s.2).bind fun c25 => (loopO (f288_L7 s.2 c25) (s.1, (0:Int)))) else ((loopO (f288_L8 aN0 s.1) ((0:Int))).map Sum.inr))
def f288_L4 (aN0 : Net) : ((List (ByteArray × Bool)) × Int) → Option (((List (ByteArray × Bool)) × Int) ⊕ Fault) := fun s =>
  (bif decide (s.2 < (aN0.Joints.length : Int)) then ((getI aN0.Joints s.2).bind fun c19 => (bif decide (c19.Kind ≤ (2:Int)) then (bif !(c19.Name.toList == ({ data := #[] } : ByteArray).toList) then ((some ({ Code := (4:Int), At := s.2 } : Fault)).map Sum.inr) else (f288_k5 s.2 s.1)) else ((f335 c19.Name).bind fun v21 => (bif (!v21 || (mget c19.Name s.1 false)) then ((some ({ Code := (4:Int), At := s.2 } : Fault)).map Sum.inr) else (f288_k5 s.2 (mset c19.Name true s.1)))))) else ((loopO (f288_L6 aN0) (([] : List (End × Int)), (0:Int))).map Sum.inr))
def f288_L2 (aN0 : Net) : Int → Option (Int ⊕ Fault) := fun s =>
  (bif decide (s < (aN0.Joints.length : Int)) then ((getI aN0.Joints s).bind fun c10 => (bif ((decide (c10.Kind < (1:Int)) || decide (c10.Kind > (4:Int))) || ((c10.Ends.length : Int) != c10.Kind)) then ((some ({ Code := (3:Int), At := s } : Fault)).map Sum.inr) else (loopO (f288_L3 aN0 s c10) ((0:Int))))) else ((loopO (f288_L4 aN0) (([] : List (ByteArray × Bool)), (0:Int))).map Sum.inr))
def f288_L1 (aN0 : Net) : ((List (ByteArray × Bool)) × Int) → Option (((List (ByteArray × Bool)) × Int) ⊕ Fault) := fun s =>
  (bif decide (s.2 < (aN0.Pieces.length : Int)) then ((getI aN0.Pieces s.2).bind fun c6 => ((f334 c6).bind fun v8 => (bif (!v8 || (mget c6.Name s.1 false)) then ((some ({ Code := (2:Int), At := s.2 } : Fault)).map Sum.inr) else some (.inl (mset c6.Name true s.1, w64 (s.2 + (1:Int))))))) else ((loopO (f288_L2 aN0) ((0:Int))).map Sum.inr))
def f288 (aN0 : Net) : Option Fault :=
  (bif ((((aN0.Pieces.length : Int) == (0:Int)) || decide ((aN0.Pieces.length : Int) > (100:Int))) || decide ((aN0.Joints.length : Int) > (120:Int))) then some ({ Code := (1:Int), At := (0:Int) } : Fault) else (loopO (f288_L1 aN0) (([] : List (ByteArray × Bool)), (0:Int))))
theorem f288_run {aN0 : Net} {r : Fault} {l1 l2 m3 : Nat} {H : Heap} {lk : Lk} (hk : f288 aN0 = some r) (hlk : 0 < lk.length := by simp) : runL Try.prog hh 288 [.agg [.lit l1 aN0.Pieces.length ((flatL 0) aN0.Pieces), .lit l2 aN0.Joints.length (flatL m3 aN0.Joints)]] H lk = some (.agg [.int .i64 r.Code, .int .i64 r.At], H) := by
  refine run_start Try.func288 rfl Try.ntmps288 Try.results288 rfl rfl fun hO => ?_
  unfold f288 at hk
  refine wpL_sq (wpL_rg ?_)
  refine pBox (cs := [_, _]) hO tZ132 (fun b1 G hO => ?_)
  refine pNew hO tZ77 t077 (fun b2 G hO => ?_)
  refine pE (gn (wpL_sq (wpL_sq (wpL_rg ?_))))
  refine pF tF132_0 ?_
  refine pLo hO 1 (.lit _ _ _) tA129 ?_
  refine pLen tS129 ?_
  refine pBi ?_
  refine pM (.bool _) ?_
  refine wpR_mid (l1 := [_, _, _, _, _]) (fun S' => ∃ J, S' = ⟨hav [(1, .ptr b1 0), (2, .ptr b2 0), (27, .bool (((aN0.Pieces.length : Int) == (0:Int)) || decide ((aN0.Pieces.length : Int) > (100:Int))))] J, G⟩) ?_ ?_
  · refine bc (b := ((aN0.Pieces.length : Int) == (0:Int))) (fun hg1 => ?_) (fun hg1 => ?_)
    · refine pGn hg1 ?_
      refine pGn hg1 ?_
      refine pGn hg1 ?_
      refine pGn hg1 ?_
      refine pPt hg1 (.bool _) ?_
      exact pE ⟨_, St.hav _ ⟨rfl, rfl, by rw [hg1]; rfl, trivial⟩⟩
    · refine pGy hg1 ?_
      refine pF tF132_0 ?_
      refine pGy hg1 ?_
      refine pLo hO 1 (.lit _ _ _) tA129 ?_
      refine pGy hg1 ?_
      refine pLen tS129 ?_
      refine pGy hg1 ?_
      refine pBi ?_
      refine pPf hg1 (.bool _) ?_
      exact pE ⟨_, St.hav _ ⟨rfl, rfl, by rw [hg1]; rfl, trivial⟩⟩
  · rintro _ ⟨J, rfl⟩
    refine pM (.bool _) ?_
    refine wpR_mid (l1 := [_, _, _, _, _]) (fun S' => ∃ J, S' = ⟨hav [(1, .ptr b1 0), (2, .ptr b2 0), (33, .bool ((((aN0.Pieces.length : Int) == (0:Int)) || decide ((aN0.Pieces.length : Int) > (100:Int))) || decide ((aN0.Joints.length : Int) > (120:Int))))] J, G⟩) ?_ ?_
    · refine bc (b := (((aN0.Pieces.length : Int) == (0:Int)) || decide ((aN0.Pieces.length : Int) > (100:Int)))) (fun hg1 => ?_) (fun hg1 => ?_)
      · refine pGn hg1 ?_
        refine pGn hg1 ?_
        refine pGn hg1 ?_
        refine pGn hg1 ?_
        refine pPt hg1 (.bool _) ?_
        exact pE ⟨_, St.hav _ ⟨rfl, rfl, by rw [hg1]; rfl, trivial⟩⟩
      · refine pGy hg1 ?_
        refine pF tF132_1 ?_
        refine pGy hg1 ?_
        refine pLo hO 1 (.lit _ _ _) tA130 ?_
        refine pGy hg1 ?_
        refine pLen tS130 ?_
        refine pGy hg1 ?_
        refine pBi ?_
        refine pPf hg1 (.bool _) ?_
        exact pE ⟨_, St.hav _ ⟨rfl, rfl, by rw [hg1]; rfl, trivial⟩⟩
    · rintro _ ⟨J, rfl⟩
      refine pE (gn ?_)
      refine wpL_cd (b := ((((aN0.Pieces.length : Int) == (0:Int)) || decide ((aN0.Pieces.length : Int) > (100:Int))) || decide ((aN0.Joints.length : Int) > (120:Int)))) (fun hb => ?_) (fun hb => ?_)
      · replace hk := ct hb hk
        refine wpL_sq (wpL_rg ?_)
        refine pBd [_, _] t077 tP77 ?_
        refine pSt (xs := [_, _]) hO 0 tZ77 rfl (fun G hO => ?_)
        refine pE (gn (wpL_rt (gr ?_)))
        replace hk := Option.some.inj hk; subst hk; exact finZ hO (fz_agg (n := 2) (fz_c (fz_int _ _) (fz_c (fz_int _ _) (fz_n)))) (resS hO 0 [_, _] tA77 tZ77 resN)
      · replace hk := cf hb hk
        refine wpL_sk (gn (wpL_sq (wpL_rg ?_)))
        refine pMm ByteArray Bool hO (fun b3 G hO => ?_)
        refine pA (.mref _) ?_
        refine pE (gn (wpL_sq (wpL_sq (wpL_rg ?_))))
        refine pF tF132_0 ?_
        refine pLo hO 2 (.lit _ _ _) tA129 ?_
        refine pLen tS129 ?_
        refine pM (.int _ _) ?_
        refine pE (gn (wpL_bl ?_))
        refine wpL_loopO (F := f288_L1 aN0) (fun s S' => ∃ (J : Nat → V) (G : Heap), Owns H G [.blk b3 (.mp (kvs s.1)), .blk b2 (.cells 2 [.int .i64 0, .int .i64 0]), .blk b1 (.cells 2 [.lit l1 aN0.Pieces.length ((flatL 0) aN0.Pieces), .lit l2 aN0.Joints.length (flatL m3 aN0.Joints)])] ∧ S' = ⟨hav [(1, .ptr b1 0), (2, .ptr b2 0), (3, .mref b3), (37, .lit l1 aN0.Pieces.length ((flatL 0) aN0.Pieces)), (38, .int .i64 (aN0.Pieces.length : Int)), (39, .int .i64 s.2)] J, G⟩) hk ⟨_, _, hO, St.hav _ ⟨rfl, rfl, rfl, rfl, rfl, rfl, trivial⟩⟩ ?_
        rintro ⟨x4, x5⟩ _ y1 ⟨J, G, hO, rfl⟩ hk hx1
        refine wpL_sq (wpL_rg ?_)
        refine pBi ?_
        refine pE (gn (wpL_sq ?_))
        refine wpL_cd (b := decide (x5 < (aN0.Pieces.length : Int))) (fun hb => ?_) (fun hb => ?_)
        · replace hk := ct hb hk
          refine wpL_sk (gn (wpL_sq (wpL_bl (wpL_sq (wpL_rg ?_)))))
          refine pM (.int _ _) ?_
          obtain ⟨c6, hc6, hk⟩ := bs hk
          refine pX hc6 tE129 tZ266 ?_
          refine pLp (.agg [_, _, _, _]) (rd2 (lm := 0) (off := 0) hc6 tA266 tZ266) ?_
          refine pNew hO tZ266 t0266 (fun b7 G hO => ?_)
          refine pA (.int _ _) ?_
          refine pSt (xs := [_, _, _, _]) hO 0 tZ266 rfl (fun G hO => ?_)
          refine pE (gn (wpL_sq (wpL_sq (wpL_rg ?_))))
          refine pLs hO 0 [_, _, _, _] tA266 tZ266 ?_
          obtain ⟨v8, hv8, hk⟩ := bs hk
          refine pCall (fun _ => f334_run hv8) ?_
          refine pU ?_
          refine pM (.bool _) ?_
          refine wpR_mid (l1 := [_, _, _, _, _]) (fun S' => ∃ J, S' = ⟨hav [(1, .ptr b1 0), (2, .ptr b2 0), (3, .mref b3), (4, .int .i64 x5), (5, .ptr b7 0), (37, .lit l1 aN0.Pieces.length ((flatL 0) aN0.Pieces)), (38, .int .i64 (aN0.Pieces.length : Int)), (39, .int .i64 x5), (52, .bool (!v8 || (mget c6.Name x4 false)))] J, G⟩) ?_ ?_
          · refine bc (b := !v8) (fun hg1 => ?_) (fun hg1 => ?_)
            · refine pGn hg1 ?_
              refine pGn hg1 ?_
              refine pGn hg1 ?_
              refine pGn hg1 ?_
              refine pPt hg1 (.bool _) ?_
              exact pE ⟨_, St.hav _ ⟨rfl, rfl, rfl, rfl, rfl, rfl, rfl, rfl, by rw [hg1]; rfl, trivial⟩⟩
            · refine pGy hg1 ?_
              refine pM (.mref _) ?_
              refine pGy hg1 ?_
              refine pF tF266_0 ?_
              refine pGy hg1 ?_
              refine pLo hO 0 (.str _) tA9 ?_
              refine pGy hg1 ?_
              refine pLk c6.Name (false : Bool) (hO.get (k := 1) rfl).1 tM377 fit_str tY4 ?_
              refine pPf hg1 (.bool _) ?_
              exact pE ⟨_, St.hav _ ⟨rfl, rfl, rfl, rfl, rfl, rfl, rfl, rfl, by rw [hg1]; rfl, trivial⟩⟩
          · rintro _ ⟨J, rfl⟩
            refine pE (gn ?_)
            refine wpL_cd (b := (!v8 || (mget c6.Name x4 false))) (fun hb => ?_) (fun hb => ?_)
            · replace hk := ct hb hk
              refine wpL_sq (wpL_rg ?_)
              refine pM (.int _ _) ?_
              refine pBd [_, _] t077 tP77 ?_
              refine pSt (xs := [_, _]) hO 2 tZ77 rfl (fun G hO => ?_)
              refine pE (gn (wpL_rt (gr (br (gr (gr (br (gr ?_))))))))
              replace hk := lx hx1 hk
              replace hk := Option.some.inj hk; subst hk; exact finZ hO (fz_agg (n := 2) (fz_c (fz_int _ _) (fz_c (fz_int _ _) (fz_n)))) (resS hO 2 [_, _] tA77 tZ77 resN)
            · replace hk := cf hb hk
              refine wpL_sk (gn (wpL_rg ?_))
              refine pM (.mref _) ?_
              refine pF tF266_0 ?_
              refine pLo hO 0 (.str _) tA9 ?_
              refine pUp hO 1 c6.Name true tM377 fit_str rfl (fun G hO => ?_)
              refine pE (bn (gn (wpL_rg ?_)))
              refine pBi ?_
              refine pM (.int _ _) ?_
              refine pE (gn ?_)
              cases hk; exact ⟨_, rfl, _, _, (Owns.pick hO [1, 2, 3] (by decide) rfl), St.hav _ ⟨rfl, rfl, rfl, rfl, rfl, rfl, trivial⟩⟩
        · replace hk := cf hb hk
          refine wpL_ex (ge (ge (be (gn ?_))))
          replace hk := lx hx1 hk
          refine wpL_sq (wpL_sq (wpL_rg ?_))
          refine pF tF132_1 ?_
          refine pLo hO 2 (.lit _ _ _) tA130 ?_
          refine pLen tS130 ?_
          refine pM (.int _ _) ?_
          refine pE (gn (wpL_bl ?_))
          refine wpL_loopO (F := f288_L2 aN0) (fun s S' => ∃ (J : Nat → V) (G : Heap), Owns H G [.blk b2 (.cells 2 [.int .i64 0, .int .i64 0]), .blk b1 (.cells 2 [.lit l1 aN0.Pieces.length ((flatL 0) aN0.Pieces), .lit l2 aN0.Joints.length (flatL m3 aN0.Joints)])] ∧ S' = ⟨hav [(1, .ptr b1 0), (2, .ptr b2 0), (60, .lit l2 aN0.Joints.length (flatL m3 aN0.Joints)), (61, .int .i64 (aN0.Joints.length : Int)), (62, .int .i64 s)] J, G⟩) hk ⟨_, _, (Owns.pick hO [1, 2] (by decide) rfl), St.hav _ ⟨rfl, rfl, rfl, rfl, rfl, trivial⟩⟩ ?_
          rintro x9 _ y1 ⟨J, G, hO, rfl⟩ hk hx1
          refine wpL_sq (wpL_rg ?_)
          refine pBi ?_
          refine pE (gn (wpL_sq ?_))
          refine wpL_cd (b := decide (x9 < (aN0.Joints.length : Int))) (fun hb => ?_) (fun hb => ?_)
          · replace hk := ct hb hk
            refine wpL_sk (gn (wpL_sq (wpL_bl (wpL_sq (wpL_rg ?_)))))
            refine pM (.int _ _) ?_
            obtain ⟨c10, hc10, hk⟩ := bs hk
            refine pX hc10 tE130 tZ332 ?_
            refine pLp (.agg [_, _, _]) (rd2 (lm := m3) (off := 0) hc10 tA332 tZ332) ?_
            refine pNew hO tZ332 t0332 (fun b11 G hO => ?_)
            refine pA (.int _ _) ?_
            refine pSt (xs := [_, _, _]) hO 0 tZ332 rfl (fun G hO => ?_)
            refine pE (gn (wpL_sq (wpL_sq (wpL_rg ?_))))
            refine pF tF332_0 ?_
            refine pLo hO 0 (.int _ _) tA3 ?_
            refine pBi ?_
            refine pM (.bool _) ?_
            refine wpR_mid (l1 := [_, _, _, _]) (fun S' => ∃ J, S' = ⟨hav [(1, .ptr b1 0), (2, .ptr b2 0), (6, .int .i64 x9), (7, .ptr b11 0), (60, .lit l2 aN0.Joints.length (flatL m3 aN0.Joints)), (61, .int .i64 (aN0.Joints.length : Int)), (62, .int .i64 x9), (74, .bool (decide (c10.Kind < (1:Int)) || decide (c10.Kind > (4:Int))))] J, G⟩) ?_ ?_
            · refine bc (b := decide (c10.Kind < (1:Int))) (fun hg1 => ?_) (fun hg1 => ?_)
              · refine pGn hg1 ?_
                refine pGn hg1 ?_
                refine pGn hg1 ?_
                refine pPt hg1 (.bool _) ?_
                exact pE ⟨_, St.hav _ ⟨rfl, rfl, rfl, rfl, rfl, rfl, rfl, by rw [hg1]; rfl, trivial⟩⟩
              · refine pGy hg1 ?_
                refine pF tF332_0 ?_
                refine pGy hg1 ?_
                refine pLo hO 0 (.int _ _) tA3 ?_
                refine pGy hg1 ?_
                refine pBi ?_
                refine pPf hg1 (.bool _) ?_
                exact pE ⟨_, St.hav _ ⟨rfl, rfl, rfl, rfl, rfl, rfl, rfl, by rw [hg1]; rfl, trivial⟩⟩
            · rintro _ ⟨J, rfl⟩
              refine pM (.bool _) ?_
              refine wpR_mid (l1 := [_, _, _, _, _, _, _]) (fun S' => ∃ J, S' = ⟨hav [(1, .ptr b1 0), (2, .ptr b2 0), (6, .int .i64 x9), (7, .ptr b11 0), (60, .lit l2 aN0.Joints.length (flatL m3 aN0.Joints)), (61, .int .i64 (aN0.Joints.length : Int)), (62, .int .i64 x9), (82, .bool ((decide (c10.Kind < (1:Int)) || decide (c10.Kind > (4:Int))) || ((c10.Ends.length : Int) != c10.Kind)))] J, G⟩) ?_ ?_
              · refine bc (b := (decide (c10.Kind < (1:Int)) || decide (c10.Kind > (4:Int)))) (fun hg1 => ?_) (fun hg1 => ?_)
                · refine pGn hg1 ?_
                  refine pGn hg1 ?_
                  refine pGn hg1 ?_
                  refine pGn hg1 ?_
                  refine pGn hg1 ?_
                  refine pGn hg1 ?_
                  refine pPt hg1 (.bool _) ?_
                  exact pE ⟨_, St.hav _ ⟨rfl, rfl, rfl, rfl, rfl, rfl, rfl, by rw [hg1]; rfl, trivial⟩⟩
                · refine pGy hg1 ?_
                  refine pF tF332_2 ?_
                  refine pGy hg1 ?_
                  refine pLo hO 0 (.lit _ _ _) tA330 ?_
                  refine pGy hg1 ?_
                  refine pLen tS330 ?_
                  refine pGy hg1 ?_
                  refine pF tF332_0 ?_
                  refine pGy hg1 ?_
                  refine pLo hO 0 (.int _ _) tA3 ?_
                  refine pGy hg1 ?_
                  refine pBi ?_
                  refine pPf hg1 (.bool _) ?_
                  exact pE ⟨_, St.hav _ ⟨rfl, rfl, rfl, rfl, rfl, rfl, rfl, by rw [hg1]; rfl, trivial⟩⟩
              · rintro _ ⟨J, rfl⟩
                refine pE (gn ?_)
                refine wpL_cd (b := ((decide (c10.Kind < (1:Int)) || decide (c10.Kind > (4:Int))) || ((c10.Ends.length : Int) != c10.Kind))) (fun hb => ?_) (fun hb => ?_)
                · replace hk := ct hb hk
                  refine wpL_sq (wpL_rg ?_)
                  refine pM (.int _ _) ?_
                  refine pBd [_, _] t077 tP77 ?_
                  refine pSt (xs := [_, _]) hO 1 tZ77 rfl (fun G hO => ?_)
                  refine pE (gn (wpL_rt (gr (br (gr (gr (br (gr ?_))))))))
                  replace hk := lx hx1 hk
                  replace hk := Option.some.inj hk; subst hk; exact finZ hO (fz_agg (n := 2) (fz_c (fz_int _ _) (fz_c (fz_int _ _) (fz_n)))) (resS hO 1 [_, _] tA77 tZ77 resN)
                · replace hk := cf hb hk
                  refine wpL_sk (gn (wpL_sq (wpL_rg ?_)))
                  refine pF tF332_2 ?_
                  refine pLo hO 0 (.lit _ _ _) tA330 ?_
                  refine pLen tS330 ?_
                  refine pM (.int _ _) ?_
                  refine pE (gn (wpL_bl ?_))
                  refine wpL_loopO (F := f288_L3 aN0 x9 c10) (fun s S' => ∃ (J : Nat → V) (G : Heap), Owns H G [.blk b2 (.cells 2 [.int .i64 0, .int .i64 0]), .blk b1 (.cells 2 [.lit l1 aN0.Pieces.length ((flatL 0) aN0.Pieces), .lit l2 aN0.Joints.length (flatL m3 aN0.Joints)])] ∧ S' = ⟨hav [(1, .ptr b1 0), (2, .ptr b2 0), (6, .int .i64 x9), (60, .lit l2 aN0.Joints.length (flatL m3 aN0.Joints)), (61, .int .i64 (aN0.Joints.length : Int)), (62, .int .i64 x9), (86, .lit m3 c10.Ends.length ((flatL 0) c10.Ends)), (87, .int .i64 (c10.Ends.length : Int)), (88, .int .i64 s)] J, G⟩) hk ⟨_, _, (Owns.pick hO [1, 2] (by decide) rfl), St.hav _ ⟨rfl, rfl, rfl, rfl, rfl, rfl, rfl, rfl, rfl, trivial⟩⟩ ?_
                  rintro x12 _ y2 ⟨J, G, hO, rfl⟩ hk hx2
                  refine wpL_sq (wpL_rg ?_)
                  refine pBi ?_
                  refine pE (gn (wpL_sq ?_))
                  refine wpL_cd (b := decide (x12 < (c10.Ends.length : Int))) (fun hb => ?_) (fun hb => ?_)
                  · replace hk := ct hb hk
                    refine wpL_sk (gn (wpL_sq (wpL_bl (wpL_sq (wpL_rg ?_)))))
                    obtain ⟨c13, hc13, hk⟩ := bs hk
                    refine pX hc13 tE330 tZ260 ?_
                    refine pLp (.agg [_, _]) (rd2 (lm := 0) (off := 0) hc13 tA260 tZ260) ?_
                    refine pNew hO tZ260 t0260 (fun b14 G hO => ?_)
                    refine pSt (xs := [_, _]) hO 0 tZ260 rfl (fun G hO => ?_)
                    refine pE (gn (wpL_sq (wpL_rg ?_)))
                    refine pF tF260_0 ?_
                    refine pLo hO 0 (.int _ _) tA3 ?_
                    refine pBi ?_
                    refine pM (.bool _) ?_
                    refine wpR_mid (l1 := [_, _, _, _, _, _, _]) (fun S' => ∃ J, S' = ⟨hav [(1, .ptr b1 0), (2, .ptr b2 0), (6, .int .i64 x9), (9, .ptr b14 0), (60, .lit l2 aN0.Joints.length (flatL m3 aN0.Joints)), (61, .int .i64 (aN0.Joints.length : Int)), (62, .int .i64 x9), (86, .lit m3 c10.Ends.length ((flatL 0) c10.Ends)), (87, .int .i64 (c10.Ends.length : Int)), (88, .int .i64 x12), (102, .bool (decide (c13.Piece < (0:Int)) || decide (c13.Piece ≥ (aN0.Pieces.length : Int))))] J, G⟩) ?_ ?_
                    · refine bc (b := decide (c13.Piece < (0:Int))) (fun hg1 => ?_) (fun hg1 => ?_)
                      · refine pGn hg1 ?_
                        refine pGn hg1 ?_
                        refine pGn hg1 ?_
                        refine pGn hg1 ?_
                        refine pGn hg1 ?_
                        refine pGn hg1 ?_
                        refine pPt hg1 (.bool _) ?_
                        exact pE ⟨_, St.hav _ ⟨rfl, rfl, rfl, rfl, rfl, rfl, rfl, rfl, rfl, rfl, by rw [hg1]; rfl, trivial⟩⟩
                      · refine pGy hg1 ?_
                        refine pF tF260_0 ?_
                        refine pGy hg1 ?_
                        refine pLo hO 0 (.int _ _) tA3 ?_
                        refine pGy hg1 ?_
                        refine pF tF132_0 ?_
                        refine pGy hg1 ?_
                        refine pLo hO 2 (.lit _ _ _) tA129 ?_
                        refine pGy hg1 ?_
                        refine pLen tS129 ?_
                        refine pGy hg1 ?_
                        refine pBi ?_
                        refine pPf hg1 (.bool _) ?_
                        exact pE ⟨_, St.hav _ ⟨rfl, rfl, rfl, rfl, rfl, rfl, rfl, rfl, rfl, rfl, by rw [hg1]; rfl, trivial⟩⟩
                    · rintro _ ⟨J, rfl⟩
                      refine pM (.bool _) ?_
                      refine wpR_mid (l1 := [_, _, _, _]) (fun S' => ∃ J, S' = ⟨hav [(1, .ptr b1 0), (2, .ptr b2 0), (6, .int .i64 x9), (9, .ptr b14 0), (60, .lit l2 aN0.Joints.length (flatL m3 aN0.Joints)), (61, .int .i64 (aN0.Joints.length : Int)), (62, .int .i64 x9), (86, .lit m3 c10.Ends.length ((flatL 0) c10.Ends)), (87, .int .i64 (c10.Ends.length : Int)), (88, .int .i64 x12), (107, .bool ((decide (c13.Piece < (0:Int)) || decide (c13.Piece ≥ (aN0.Pieces.length : Int))) || decide (c13.Side < (0:Int))))] J, G⟩) ?_ ?_
                      · refine bc (b := (decide (c13.Piece < (0:Int)) || decide (c13.Piece ≥ (aN0.Pieces.length : Int)))) (fun hg1 => ?_) (fun hg1 => ?_)
                        · refine pGn hg1 ?_
                          refine pGn hg1 ?_
                          refine pGn hg1 ?_
                          refine pPt hg1 (.bool _) ?_
                          exact pE ⟨_, St.hav _ ⟨rfl, rfl, rfl, rfl, rfl, rfl, rfl, rfl, rfl, rfl, by rw [hg1]; rfl, trivial⟩⟩
                        · refine pGy hg1 ?_
                          refine pF tF260_1 ?_
                          refine pGy hg1 ?_
                          refine pLo hO 0 (.int _ _) tA3 ?_
                          refine pGy hg1 ?_
                          refine pBi ?_
                          refine pPf hg1 (.bool _) ?_
                          exact pE ⟨_, St.hav _ ⟨rfl, rfl, rfl, rfl, rfl, rfl, rfl, rfl, rfl, rfl, by rw [hg1]; rfl, trivial⟩⟩
                      · rintro _ ⟨J, rfl⟩
                        refine pM (.bool _) ?_
                        refine wpR_mid (l1 := [_, _, _, _]) (fun S' => ∃ J, S' = ⟨hav [(1, .ptr b1 0), (2, .ptr b2 0), (6, .int .i64 x9), (60, .lit l2 aN0.Joints.length (flatL m3 aN0.Joints)), (61, .int .i64 (aN0.Joints.length : Int)), (62, .int .i64 x9), (86, .lit m3 c10.Ends.length ((flatL 0) c10.Ends)), (87, .int .i64 (c10.Ends.length : Int)), (88, .int .i64 x12), (112, .bool (((decide (c13.Piece < (0:Int)) || decide (c13.Piece ≥ (aN0.Pieces.length : Int))) || decide (c13.Side < (0:Int))) || decide (c13.Side > (1:Int))))] J, G⟩) ?_ ?_
                        · refine bc (b := ((decide (c13.Piece < (0:Int)) || decide (c13.Piece ≥ (aN0.Pieces.length : Int))) || decide (c13.Side < (0:Int)))) (fun hg1 => ?_) (fun hg1 => ?_)
                          · refine pGn hg1 ?_
                            refine pGn hg1 ?_
                            refine pGn hg1 ?_
                            refine pPt hg1 (.bool _) ?_
                            exact pE ⟨_, St.hav _ ⟨rfl, rfl, rfl, rfl, rfl, rfl, rfl, rfl, rfl, by rw [hg1]; rfl, trivial⟩⟩
                          · refine pGy hg1 ?_
                            refine pF tF260_1 ?_
                            refine pGy hg1 ?_
                            refine pLo hO 0 (.int _ _) tA3 ?_
                            refine pGy hg1 ?_
                            refine pBi ?_
                            refine pPf hg1 (.bool _) ?_
                            exact pE ⟨_, St.hav _ ⟨rfl, rfl, rfl, rfl, rfl, rfl, rfl, rfl, rfl, by rw [hg1]; rfl, trivial⟩⟩
                        · rintro _ ⟨J, rfl⟩
                          refine pE (gn ?_)
                          refine wpL_cd (b := (((decide (c13.Piece < (0:Int)) || decide (c13.Piece ≥ (aN0.Pieces.length : Int))) || decide (c13.Side < (0:Int))) || decide (c13.Side > (1:Int)))) (fun hb => ?_) (fun hb => ?_)
                          · replace hk := ct hb hk
                            refine wpL_sq (wpL_rg ?_)
                            refine pM (.int _ _) ?_
                            refine pBd [_, _] t077 tP77 ?_
                            refine pSt (xs := [_, _]) hO 1 tZ77 rfl (fun G hO => ?_)
                            refine pE (gn (wpL_rt (br (gr (gr (br (br (gr (gr (br (gr ?_)))))))))))
                            replace hk := lx hx2 hk
                            replace hk := lx hx1 hk
                            replace hk := Option.some.inj hk; subst hk; exact finZ hO (fz_agg (n := 2) (fz_c (fz_int _ _) (fz_c (fz_int _ _) (fz_n)))) (resS hO 1 [_, _] tA77 tZ77 resN)
                          · replace hk := cf hb hk
                            refine wpL_sk (bn (gn (wpL_rg ?_)))
                            refine pBi ?_
                            refine pM (.int _ _) ?_
                            refine pE (gn ?_)
                            cases hk; exact ⟨_, rfl, _, _, (Owns.pick hO [1, 2] (by decide) rfl), St.hav _ ⟨rfl, rfl, rfl, rfl, rfl, rfl, rfl, rfl, rfl, trivial⟩⟩
                  · replace hk := cf hb hk
                    refine wpL_ex (ge (ge (be (bn (gn ?_)))))
                    replace hk := lx hx2 hk
                    refine wpL_rg ?_
                    refine pBi ?_
                    refine pM (.int _ _) ?_
                    refine pE (gn ?_)
                    cases hk; exact ⟨_, rfl, _, _, hO, St.hav _ ⟨rfl, rfl, rfl, rfl, rfl, trivial⟩⟩
          · replace hk := cf hb hk
            refine wpL_ex (ge (ge (be (gn ?_))))
            replace hk := lx hx1 hk
            refine wpL_sq (wpL_rg ?_)
            refine pMm ByteArray Bool hO (fun b15 G hO => ?_)
            refine pA (.mref _) ?_
            refine pE (gn (wpL_sq (wpL_sq (wpL_rg ?_))))
            refine pF tF132_1 ?_
            refine pLo hO 2 (.lit _ _ _) tA130 ?_
            refine pLen tS130 ?_
            refine pM (.int _ _) ?_
            refine pE (gn (wpL_bl ?_))
            refine wpL_loopO (F := f288_L4 aN0) (fun s S' => ∃ (J : Nat → V) (G : Heap), Owns H G [.blk b15 (.mp (kvs s.1)), .blk b2 (.cells 2 [.int .i64 0, .int .i64 0]), .blk b1 (.cells 2 [.lit l1 aN0.Pieces.length ((flatL 0) aN0.Pieces), .lit l2 aN0.Joints.length (flatL m3 aN0.Joints)])] ∧ S' = ⟨hav [(1, .ptr b1 0), (2, .ptr b2 0), (3, .mref b15), (119, .lit l2 aN0.Joints.length (flatL m3 aN0.Joints)), (120, .int .i64 (aN0.Joints.length : Int)), (121, .int .i64 s.2)] J, G⟩) hk ⟨_, _, hO, St.hav _ ⟨rfl, rfl, rfl, rfl, rfl, rfl, trivial⟩⟩ ?_
            rintro ⟨x16, x17⟩ _ y1 ⟨J, G, hO, rfl⟩ hk hx1
            refine wpL_sq (wpL_rg ?_)
            refine pBi ?_
            refine pE (gn (wpL_sq ?_))
            refine wpL_cd (b := decide (x17 < (aN0.Joints.length : Int))) (fun hb => ?_) (fun hb => ?_)
            · replace hk := ct hb hk
              refine wpL_sk (gn ?_)
              refine wpL_mid (fun S' => ∃ (x18 : List (ByteArray × Bool)) (J : Nat → V) (G : Heap), f288_k5 x17 x18 = some y1 ∧ Owns H G [.blk b15 (.mp (kvs x18)), .blk b2 (.cells 2 [.int .i64 0, .int .i64 0]), .blk b1 (.cells 2 [.lit l1 aN0.Pieces.length ((flatL 0) aN0.Pieces), .lit l2 aN0.Joints.length (flatL m3 aN0.Joints)])] ∧ S' = ⟨hav [(1, .ptr b1 0), (2, .ptr b2 0), (3, .mref b15), (119, .lit l2 aN0.Joints.length (flatL m3 aN0.Joints)), (120, .int .i64 (aN0.Joints.length : Int)), (121, .int .i64 x17)] J, G⟩) ?_ ?_
              · refine wpL_bl (wpL_sq (wpL_rg ?_))
                refine pM (.int _ _) ?_
                obtain ⟨c19, hc19, hk⟩ := bs hk
                refine pX hc19 tE130 tZ332 ?_
                refine pLp (.agg [_, _, _]) (rd2 (lm := m3) (off := 0) hc19 tA332 tZ332) ?_
                refine pNew hO tZ332 t0332 (fun b20 G hO => ?_)
                refine pA (.int _ _) ?_
                refine pSt (xs := [_, _, _]) hO 0 tZ332 rfl (fun G hO => ?_)
                refine pE (gn (wpL_sq (wpL_sq (wpL_rg ?_))))
                refine pF tF332_0 ?_
                refine pLo hO 0 (.int _ _) tA3 ?_
                refine pBi ?_
                refine pE (gn ?_)
                refine wpL_cd (b := decide (c19.Kind ≤ (2:Int))) (fun hb => ?_) (fun hb => ?_)
                · replace hk := ct hb hk
                  refine wpL_sq (wpL_sq (wpL_rg ?_))
                  refine pF tF332_1 ?_
                  refine pLo hO 0 (.str _) tA9 ?_
                  refine pB (a := .str _) (b := .str _) ?_
                  refine pE (gn ?_)
                  refine wpL_cd (b := !(c19.Name.toList == ({ data := #[] } : ByteArray).toList)) (fun hb => ?_) (fun hb => ?_)
                  · replace hk := ct hb hk
                    refine wpL_sq (wpL_rg ?_)
                    refine pM (.int _ _) ?_
                    refine pBd [_, _] t077 tP77 ?_
                    refine pSt (xs := [_, _]) hO 2 tZ77 rfl (fun G hO => ?_)
                    refine pE (gn (wpL_rt (gr (gr (br (gr (gr (br (gr ?_)))))))))
                    replace hk := lx hx1 hk
                    replace hk := Option.some.inj hk; subst hk; exact finZ hO (fz_agg (n := 2) (fz_c (fz_int _ _) (fz_c (fz_int _ _) (fz_n)))) (resS hO 2 [_, _] tA77 tZ77 resN)
                  · replace hk := cf hb hk
                    refine wpL_sk (gn (wpL_ex (ge (be (gn ?_)))))
                    exact ⟨x16, _, _, hk, (Owns.pick hO [1, 2, 3] (by decide) rfl), St.hav _ ⟨rfl, rfl, rfl, rfl, rfl, rfl, trivial⟩⟩
                · replace hk := cf hb hk
                  refine wpL_sk (gn (wpL_sq (wpL_sq (wpL_rg ?_))))
                  refine pF tF332_1 ?_
                  refine pLo hO 0 (.str _) tA9 ?_
                  obtain ⟨v21, hv21, hk⟩ := bs hk
                  refine pCall (fun _ => f335_run hv21) ?_
                  refine pU ?_
                  refine pM (.bool _) ?_
                  refine wpR_mid (l1 := [_, _, _, _, _]) (fun S' => ∃ J, S' = ⟨hav [(1, .ptr b1 0), (2, .ptr b2 0), (3, .mref b15), (10, .int .i64 x17), (11, .ptr b20 0), (119, .lit l2 aN0.Joints.length (flatL m3 aN0.Joints)), (120, .int .i64 (aN0.Joints.length : Int)), (121, .int .i64 x17), (143, .bool (!v21 || (mget c19.Name x16 false)))] J, G⟩) ?_ ?_
                  · refine bc (b := !v21) (fun hg1 => ?_) (fun hg1 => ?_)
                    · refine pGn hg1 ?_
                      refine pGn hg1 ?_
                      refine pGn hg1 ?_
                      refine pGn hg1 ?_
                      refine pPt hg1 (.bool _) ?_
                      exact pE ⟨_, St.hav _ ⟨rfl, rfl, rfl, rfl, rfl, rfl, rfl, rfl, by rw [hg1]; rfl, trivial⟩⟩
                    · refine pGy hg1 ?_
                      refine pM (.mref _) ?_
                      refine pGy hg1 ?_
                      refine pF tF332_1 ?_
                      refine pGy hg1 ?_
                      refine pLo hO 0 (.str _) tA9 ?_
                      refine pGy hg1 ?_
                      refine pLk c19.Name (false : Bool) (hO.get (k := 1) rfl).1 tM377 fit_str tY4 ?_
                      refine pPf hg1 (.bool _) ?_
                      exact pE ⟨_, St.hav _ ⟨rfl, rfl, rfl, rfl, rfl, rfl, rfl, rfl, by rw [hg1]; rfl, trivial⟩⟩
                  · rintro _ ⟨J, rfl⟩
                    refine pE (gn ?_)
                    refine wpL_cd (b := (!v21 || (mget c19.Name x16 false))) (fun hb => ?_) (fun hb => ?_)
                    · replace hk := ct hb hk
                      refine wpL_sq (wpL_rg ?_)
                      refine pM (.int _ _) ?_
                      refine pBd [_, _] t077 tP77 ?_
                      refine pSt (xs := [_, _]) hO 2 tZ77 rfl (fun G hO => ?_)
                      refine pE (gn (wpL_rt (gr (br (gr (gr (br (gr ?_))))))))
                      replace hk := lx hx1 hk
                      replace hk := Option.some.inj hk; subst hk; exact finZ hO (fz_agg (n := 2) (fz_c (fz_int _ _) (fz_c (fz_int _ _) (fz_n)))) (resS hO 2 [_, _] tA77 tZ77 resN)
                    · replace hk := cf hb hk
                      refine wpL_sk (gn (wpL_rg ?_))
                      refine pM (.mref _) ?_
                      refine pF tF332_1 ?_
                      refine pLo hO 0 (.str _) tA9 ?_
                      refine pUp hO 1 c19.Name true tM377 fit_str rfl (fun G hO => ?_)
                      refine pE (bn (gn ?_))
                      exact ⟨mset c19.Name true x16, _, _, hk, (Owns.pick hO [1, 2, 3] (by decide) rfl), St.hav _ ⟨rfl, rfl, rfl, rfl, rfl, rfl, trivial⟩⟩
              · rintro _ ⟨x18, J, G, hk, hO, rfl⟩
                refine wpL_rg ?_
                refine pBi ?_
                refine pM (.int _ _) ?_
                refine pE (gn ?_)
                cases hk; exact ⟨_, rfl, _, _, hO, St.hav _ ⟨rfl, rfl, rfl, rfl, rfl, rfl, trivial⟩⟩
            · replace hk := cf hb hk
              refine wpL_ex (ge (ge (be (gn ?_))))
              replace hk := lx hx1 hk
              refine wpL_sq (wpL_rg ?_)
              refine pMm End Int hO (fun b22 G hO => ?_)
              refine pA (.mref _) ?_
              refine pE (gn (wpL_sq (wpL_sq (wpL_rg ?_))))
              refine pF tF132_1 ?_
              refine pLo hO 3 (.lit _ _ _) tA130 ?_
              refine pLen tS130 ?_
              refine pM (.int _ _) ?_
              refine pE (gn (wpL_bl ?_))
              refine wpL_loopO (F := f288_L6 aN0) (fun s S' => ∃ (J : Nat → V) (G : Heap), Owns H G [.blk b22 (.mp (kvs s.1)), .blk b2 (.cells 2 [.int .i64 0, .int .i64 0]), .blk b1 (.cells 2 [.lit l1 aN0.Pieces.length ((flatL 0) aN0.Pieces), .lit l2 aN0.Joints.length (flatL m3 aN0.Joints)])] ∧ S' = ⟨hav [(1, .ptr b1 0), (2, .ptr b2 0), (12, .mref b22), (152, .lit l2 aN0.Joints.length (flatL m3 aN0.Joints)), (153, .int .i64 (aN0.Joints.length : Int)), (154, .int .i64 s.2)] J, G⟩) hk ⟨_, _, (Owns.pick hO [0, 2, 3] (by decide) rfl), St.hav _ ⟨rfl, rfl, rfl, rfl, rfl, rfl, trivial⟩⟩ ?_
              rintro ⟨x23, x24⟩ _ y1 ⟨J, G, hO, rfl⟩ hk hx1
              refine wpL_sq (wpL_rg ?_)
              refine pBi ?_
              refine pE (gn (wpL_sq ?_))
              refine wpL_cd (b := decide (x24 < (aN0.Joints.length : Int))) (fun hb => ?_) (fun hb => ?_)
              · replace hk := ct hb hk
                refine wpL_sk (gn (wpL_sq (wpL_bl (wpL_sq (wpL_rg ?_)))))
                obtain ⟨c25, hc25, hk⟩ := bs hk
                refine pX hc25 tE130 tZ332 ?_
                refine pLp (.agg [_, _, _]) (rd2 (lm := m3) (off := 0) hc25 tA332 tZ332) ?_
                refine pNew hO tZ332 t0332 (fun b26 G hO => ?_)
                refine pSt (xs := [_, _, _]) hO 0 tZ332 rfl (fun G hO => ?_)
                refine pE (gn (wpL_sq (wpL_rg ?_)))
                refine pF tF332_2 ?_
                refine pLo hO 0 (.lit _ _ _) tA330 ?_
                refine pLen tS330 ?_
                refine pM (.int _ _) ?_
                refine pE (gn (wpL_bl ?_))
                refine wpL_loopO (F := f288_L7 x24 c25) (fun s S' => ∃ (J : Nat → V) (G : Heap), Owns H G [.blk b22 (.mp (kvs s.1)), .blk b2 (.cells 2 [.int .i64 0, .int .i64 0]), .blk b1 (.cells 2 [.lit l1 aN0.Pieces.length ((flatL 0) aN0.Pieces), .lit l2 aN0.Joints.length (flatL m3 aN0.Joints)])] ∧ S' = ⟨hav [(1, .ptr b1 0), (2, .ptr b2 0), (12, .mref b22), (152, .lit l2 aN0.Joints.length (flatL m3 aN0.Joints)), (153, .int .i64 (aN0.Joints.length : Int)), (154, .int .i64 x24), (159, .lit m3 c25.Ends.length ((flatL 0) c25.Ends)), (160, .int .i64 (c25.Ends.length : Int)), (161, .int .i64 s.2)] J, G⟩) hk ⟨_, _, (Owns.pick hO [1, 2, 3] (by decide) rfl), St.hav _ ⟨rfl, rfl, rfl, rfl, rfl, rfl, rfl, rfl, rfl, trivial⟩⟩ ?_
                rintro ⟨x27, x28⟩ _ y2 ⟨J, G, hO, rfl⟩ hk hx2
                refine wpL_sq (wpL_rg ?_)
                refine pBi ?_
                refine pE (gn (wpL_sq ?_))
                refine wpL_cd (b := decide (x28 < (c25.Ends.length : Int))) (fun hb => ?_) (fun hb => ?_)
                · replace hk := ct hb hk
                  refine wpL_sk (gn (wpL_sq (wpL_bl (wpL_sq (wpL_rg ?_)))))
                  obtain ⟨c29, hc29, hk⟩ := bs hk
                  refine pX hc29 tE330 tZ260 ?_
                  refine pLp (.agg [_, _]) (rd2 (lm := 0) (off := 0) hc29 tA260 tZ260) ?_
                  refine pNew hO tZ260 t0260 (fun b30 G hO => ?_)
                  refine pSt (xs := [_, _]) hO 0 tZ260 rfl (fun G hO => ?_)
                  refine pE (gn ?_)
                  refine wpL_drw [(0, true), (1, true), (2, true), (3, false), (4, true), (5, true), (6, false)] [_, _, _, _, _, _, _] (by decide +kernel) (by rfl) ?_
                  refine pM (.mref _) ?_
                  refine pLs hO 0 [_, _] tA260 tZ260 ?_
                  refine pLk c29 (0 : Int) (hO.get (k := 1) rfl).1 tM379 fitEndK tY3 ?_
                  refine pBi ?_
                  refine pEn hO 1 c29 (0 : Int) tM379 fitEndK tY3 rfl (fun G hO => ?_)
                  refine pEx (.int _ _) ?_
                  refine pEs hO 1 c29 (0 : Int) (w64 ((mget c29 x27 0) + (1:Int))) rfl (fun G hO => ?_)
                  refine pE (bn (gn (wpL_rg ?_)))
                  refine pBi ?_
                  refine pM (.int _ _) ?_
                  refine pE (gn ?_)
                  cases hk; exact ⟨_, rfl, _, _, (Owns.pick hO [1, 2, 3] (by decide) rfl), St.hav _ ⟨rfl, rfl, rfl, rfl, rfl, rfl, rfl, rfl, rfl, trivial⟩⟩
                · replace hk := cf hb hk
                  refine wpL_ex (ge (ge (be (bn (gn ?_)))))
                  replace hk := lx hx2 hk
                  refine wpL_rg ?_
                  refine pBi ?_
                  refine pM (.int _ _) ?_
                  refine pE (gn ?_)
                  cases hk; exact ⟨_, rfl, _, _, hO, St.hav _ ⟨rfl, rfl, rfl, rfl, rfl, rfl, trivial⟩⟩
              · replace hk := cf hb hk
                refine wpL_ex (ge (ge (be (gn ?_))))
                replace hk := lx hx1 hk
                refine wpL_sq (wpL_sq (wpL_rg ?_))
                refine pF tF132_0 ?_
                refine pLo hO 2 (.lit _ _ _) tA129 ?_
                refine pLen tS129 ?_
                refine pM (.int _ _) ?_
                refine pE (gn (wpL_bl ?_))
                refine wpL_loopO (F := f288_L8 aN0 x23) (fun s S' => ∃ (J : Nat → V) (G : Heap), Owns H G [.blk b22 (.mp (kvs x23)), .blk b2 (.cells 2 [.int .i64 0, .int .i64 0])] ∧ S' = ⟨hav [(2, .ptr b2 0), (12, .mref b22), (175, .int .i64 (aN0.Pieces.length : Int)), (176, .int .i64 s)] J, G⟩) hk ⟨_, _, (Owns.pick hO [0, 1] (by decide) rfl), St.hav _ ⟨rfl, rfl, rfl, rfl, trivial⟩⟩ ?_
                rintro x31 _ y1 ⟨J, G, hO, rfl⟩ hk hx1
                refine wpL_sq (wpL_rg ?_)
                refine pBi ?_
                refine pE (gn (wpL_sq ?_))
                refine wpL_cd (b := decide (x31 < (aN0.Pieces.length : Int))) (fun hb => ?_) (fun hb => ?_)
                · replace hk := ct hb hk
                  refine wpL_sk (gn (wpL_sq (wpL_bl (wpL_sq (wpL_rg ?_)))))
                  refine pM (.int _ _) ?_
                  refine pA (.int _ _) ?_
                  refine pE (gn (wpL_sq (wpL_rg ?_)))
                  refine pM (.mref _) ?_
                  refine pM (.int _ _) ?_
                  refine pBd [_, _] t0260 tP260 ?_
                  refine pLk ({ Piece := x31, Side := (0:Int) } : End) (0 : Int) (hO.get (k := 0) rfl).1 tM379 fitEndK tY3 ?_
                  refine pBi ?_
                  refine pM (.bool _) ?_
                  refine wpR_mid (l1 := [_, _, _, _, _, _]) (fun S' => ∃ J, S' = ⟨hav [(2, .ptr b2 0), (12, .mref b22), (17, .int .i64 x31), (175, .int .i64 (aN0.Pieces.length : Int)), (176, .int .i64 x31), (190, .bool (((mget ({ Piece := x31, Side := (0:Int) } : End) x23 0) != (1:Int)) || ((mget ({ Piece := x31, Side := (1:Int) } : End) x23 0) != (1:Int))))] J, G⟩) ?_ ?_
                  · refine bc (b := ((mget ({ Piece := x31, Side := (0:Int) } : End) x23 0) != (1:Int))) (fun hg1 => ?_) (fun hg1 => ?_)
                    · refine pGn hg1 ?_
                      refine pGn hg1 ?_
                      refine pGn hg1 ?_
                      refine pGn hg1 ?_
                      refine pGn hg1 ?_
                      refine pPt hg1 (.bool _) ?_
                      exact pE ⟨_, St.hav _ ⟨rfl, rfl, rfl, rfl, rfl, by rw [hg1]; rfl, trivial⟩⟩
                    · refine pGy hg1 ?_
                      refine pM (.mref _) ?_
                      refine pGy hg1 ?_
                      refine pM (.int _ _) ?_
                      refine pGy hg1 ?_
                      refine pBd [_, _] t0260 tP260 ?_
                      refine pGy hg1 ?_
                      refine pLk ({ Piece := x31, Side := (1:Int) } : End) (0 : Int) (hO.get (k := 0) rfl).1 tM379 fitEndK tY3 ?_
                      refine pGy hg1 ?_
                      refine pBi ?_
                      refine pPf hg1 (.bool _) ?_
                      exact pE ⟨_, St.hav _ ⟨rfl, rfl, rfl, rfl, rfl, by rw [hg1]; rfl, trivial⟩⟩
                  · rintro _ ⟨J, rfl⟩
                    refine pE (gn ?_)
                    refine wpL_cd (b := (((mget ({ Piece := x31, Side := (0:Int) } : End) x23 0) != (1:Int)) || ((mget ({ Piece := x31, Side := (1:Int) } : End) x23 0) != (1:Int)))) (fun hb => ?_) (fun hb => ?_)
                    · replace hk := ct hb hk
                      refine wpL_sq (wpL_rg ?_)
                      refine pM (.int _ _) ?_
                      refine pBd [_, _] t077 tP77 ?_
                      refine pSt (xs := [_, _]) hO 1 tZ77 rfl (fun G hO => ?_)
                      refine pE (gn (wpL_rt (br (gr (gr (br (gr ?_)))))))
                      replace hk := lx hx1 hk
                      replace hk := Option.some.inj hk; subst hk; exact finZ hO (fz_agg (n := 2) (fz_c (fz_int _ _) (fz_c (fz_int _ _) (fz_n)))) (resS hO 1 [_, _] tA77 tZ77 resN)
                    · replace hk := cf hb hk
                      refine wpL_sk (bn (gn (wpL_rg ?_)))
                      refine pBi ?_
                      refine pM (.int _ _) ?_
                      refine pE (gn ?_)
                      cases hk; exact ⟨_, rfl, _, _, hO, St.hav _ ⟨rfl, rfl, rfl, rfl, trivial⟩⟩
                · replace hk := cf hb hk
                  refine wpL_ex (ge (ge (be (gn ?_))))
                  replace hk := lx hx1 hk
                  refine wpL_sq (wpL_rg ?_)
                  refine pBd [_, _] t077 tP77 ?_
                  refine pSt (xs := [_, _]) hO 1 tZ77 rfl (fun G hO => ?_)
                  refine pE (gn (wpL_rt ?_))
                  replace hk := Option.some.inj hk; subst hk; exact finZ hO (fz_agg (n := 2) (fz_c (fz_int _ _) (fz_c (fz_int _ _) (fz_n)))) (resS hO 1 [_, _] tA77 tZ77 resN)
/-- impl.good -/
def f199 (aN0 : Net) : Option Bool :=
  ((f288 aN0).bind fun v2 => some ((v2.Code == 0) && ((v2.At == 0) && true)))
theorem f199_run {aN0 : Net} {r : Bool} {l1 l2 m3 : Nat} {H : Heap} {lk : Lk} (hk : f199 aN0 = some r) (hlk : 0 < lk.length := by simp) : runL Try.prog hh 199 [.agg [.lit l1 aN0.Pieces.length ((flatL 0) aN0.Pieces), .lit l2 aN0.Joints.length (flatL m3 aN0.Joints)]] H lk = some (.bool r, H) := by
  refine run_start Try.func199 rfl Try.ntmps199 Try.results199 rfl rfl fun hO => ?_
  unfold f199 at hk
  refine wpL_sq (wpL_rg ?_)
  refine pBox (cs := [_, _]) hO tZ132 (fun b1 G hO => ?_)
  refine pA (.bool _) ?_
  refine pE (gn (wpL_sq (wpL_rg ?_)))
  refine pLs hO 0 [_, _] tA132 tZ132 ?_
  obtain ⟨v2, hv2, hk⟩ := bs hk
  refine pCall (fun _ => f288_run hv2) ?_
  refine pBd [_, _] t077 tP77 ?_
  refine pGq tG77 (eqc (eqi _ _ _) (eqc (eqi _ _ _) (rfl))) ?_
  refine pA (.bool _) ?_
  refine pE (gn (wpL_rt ?_))
  replace hk := Option.some.inj hk; subst hk; exact fin0 hO
/-- impl.within -/
def f171 (aX0 : Int) (aLo1 : Int) (aHi2 : Int) : Option Bool :=
  some (decide (aX0 ≥ aLo1) && decide (aX0 ≤ aHi2))
theorem f171_run {aX0 : Int} {aLo1 : Int} {aHi2 : Int} {r : Bool} {H : Heap} {lk : Lk} (hk : f171 aX0 aLo1 aHi2 = some r) (hlk : 0 < lk.length := by simp) : runL Try.prog hh 171 [.int .i64 aX0, .int .i64 aLo1, .int .i64 aHi2] H lk = some (.bool r, H) := by
  refine run_start Try.func171 rfl Try.ntmps171 Try.results171 rfl rfl fun hO => ?_
  unfold f171 at hk
  refine wpL_sq (wpL_rg ?_)
  refine pA (.bool _) ?_
  refine pE (gn (wpL_sq (wpL_rg ?_)))
  refine pM (.int _ _) ?_
  refine pM (.int _ _) ?_
  refine pBi ?_
  refine pM (.bool _) ?_
  refine wpR_mid (l1 := [_, _, _, _]) (fun S' => ∃ J, S' = ⟨hav [(14, .bool (decide (aX0 ≥ aLo1) && decide (aX0 ≤ aHi2)))] J, H⟩) ?_ ?_
  · refine bc (b := decide (aX0 ≥ aLo1)) (fun hg1 => ?_) (fun hg1 => ?_)
    · refine pGy hg1 ?_
      refine pM (.int _ _) ?_
      refine pGy hg1 ?_
      refine pM (.int _ _) ?_
      refine pGy hg1 ?_
      refine pBi ?_
      refine pPt hg1 (.bool _) ?_
      exact pE ⟨_, St.hav _ ⟨by rw [hg1]; rfl, trivial⟩⟩
    · refine pGn hg1 ?_
      refine pGn hg1 ?_
      refine pGn hg1 ?_
      refine pPf hg1 (.bool _) ?_
      exact pE ⟨_, St.hav _ ⟨by rw [hg1]; rfl, trivial⟩⟩
  · rintro _ ⟨J, rfl⟩
    refine pA (.bool _) ?_
    refine pE (gn (wpL_rt ?_))
    replace hk := Option.some.inj hk; subst hk; exact fin0 hO
end
end Go.Proofs.Ytkfekjcahepfnaa.K
