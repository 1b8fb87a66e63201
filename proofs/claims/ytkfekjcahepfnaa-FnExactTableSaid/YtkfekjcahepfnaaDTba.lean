/-
  The functions that FnExactTable reaches, as typed Lean functions, and that the interpreter computes them. Part 1 of 2. No conditions.
-/
import Derived.Test.YtkfekjcahepfnaaKzh
import Derived.Test.YtkfekjcahepfnaaProg
set_option linter.unusedVariables false
set_option linter.unusedSimpArgs false
set_option maxRecDepth 100000
namespace Go.Proofs.Ytkfekjcahepfnaa.K
noncomputable section
def hh : Hints := { modes := fun k => bif Nat.beq k 31 || Nat.beq k 66 || Nat.beq k 67 || Nat.beq k 113 || Nat.beq k 179 || Nat.beq k 180 || Nat.beq k 181 then [.exact] else [], thaw := fun k => Nat.beq k 48 || Nat.beq k 62 || Nat.beq k 63 || Nat.beq k 97 || Nat.beq k 156 || Nat.beq k 157 || Nat.beq k 158 || Nat.beq k 159, grow := fun k => Nat.beq k 261, keep := fun k => Nat.beq k 62 || Nat.beq k 63 }
structure Step where
  Piece : Int
  Way : Int
instance : GoT Step := ⟨2, by decide, fun l x => GoT.encL l x.Piece ++ (GoT.encL l x.Way), fun x => by simp only [List.length_append, GoT.len]; rfl, fun x => by simp only [cleanL_append, GoT.clean]; rfl, fun x => by simp only [List.all_append, GoT.cell]; rfl⟩
instance : GoM Step := GoM.via (fun x => (x.Piece, x.Way) : Step → Int × Int) rfl fun _ _ => rfl
instance : GoFl Step := ⟨fun G x => GoFl.fl (α := Int × Int) G (x.Piece, x.Way), fun l x => GoFl.lev (α := Int × Int) l (x.Piece, x.Way), GoFl.pos (α := Int × Int)⟩
theorem foc_Step_Piece : Foc Step Int (fun x => x.Piece) (fun x y => { x with Piece := y }) 0 := Foc.via (α := Step) (f := (fun x => (x.Piece, x.Way) : Step → Int × Int)) (hz := rfl) (he := fun _ _ => rfl) (Foc.fst) fun _ _ => rfl
theorem foc_Step_Way : Foc Step Int (fun x => x.Way) (fun x y => { x with Way := y }) 1 := Foc.via (α := Step) (f := (fun x => (x.Piece, x.Way) : Step → Int × Int)) (hz := rfl) (he := fun _ _ => rfl) (Foc.snd) fun _ _ => rfl
structure Lie where
  Joint : Int
  Lie : Int
instance : GoT Lie := ⟨2, by decide, fun l x => GoT.encL l x.Joint ++ (GoT.encL l x.Lie), fun x => by simp only [List.length_append, GoT.len]; rfl, fun x => by simp only [cleanL_append, GoT.clean]; rfl, fun x => by simp only [List.all_append, GoT.cell]; rfl⟩
instance : GoM Lie := GoM.via (fun x => (x.Joint, x.Lie) : Lie → Int × Int) rfl fun _ _ => rfl
instance : GoFl Lie := ⟨fun G x => GoFl.fl (α := Int × Int) G (x.Joint, x.Lie), fun l x => GoFl.lev (α := Int × Int) l (x.Joint, x.Lie), GoFl.pos (α := Int × Int)⟩
theorem foc_Lie_Joint : Foc Lie Int (fun x => x.Joint) (fun x y => { x with Joint := y }) 0 := Foc.via (α := Lie) (f := (fun x => (x.Joint, x.Lie) : Lie → Int × Int)) (hz := rfl) (he := fun _ _ => rfl) (Foc.fst) fun _ _ => rfl
theorem foc_Lie_Lie : Foc Lie Int (fun x => x.Lie) (fun x y => { x with Lie := y }) 1 := Foc.via (α := Lie) (f := (fun x => (x.Joint, x.Lie) : Lie → Int × Int)) (hz := rfl) (he := fun _ _ => rfl) (Foc.snd) fun _ _ => rfl
structure Part where
  Piece : Int
  From : Int
  To : Int
instance : GoT Part := ⟨3, by decide, fun l x => GoT.encL l x.Piece ++ (GoT.encL l x.From ++ (GoT.encL l x.To)), fun x => by simp only [List.length_append, GoT.len]; rfl, fun x => by simp only [cleanL_append, GoT.clean]; rfl, fun x => by simp only [List.all_append, GoT.cell]; rfl⟩
instance : GoM Part := GoM.via (fun x => (x.Piece, x.From, x.To) : Part → Int × Int × Int) rfl fun _ _ => rfl
instance : GoFl Part := ⟨fun G x => GoFl.fl (α := Int × Int × Int) G (x.Piece, x.From, x.To), fun l x => GoFl.lev (α := Int × Int × Int) l (x.Piece, x.From, x.To), GoFl.pos (α := Int × Int × Int)⟩
theorem foc_Part_Piece : Foc Part Int (fun x => x.Piece) (fun x y => { x with Piece := y }) 0 := Foc.via (α := Part) (f := (fun x => (x.Piece, x.From, x.To) : Part → Int × Int × Int)) (hz := rfl) (he := fun _ _ => rfl) (Foc.fst) fun _ _ => rfl
theorem foc_Part_From : Foc Part Int (fun x => x.From) (fun x y => { x with From := y }) 1 := Foc.via (α := Part) (f := (fun x => (x.Piece, x.From, x.To) : Part → Int × Int × Int)) (hz := rfl) (he := fun _ _ => rfl) (Foc.comp Foc.snd (Foc.fst)) fun _ _ => rfl
theorem foc_Part_To : Foc Part Int (fun x => x.To) (fun x y => { x with To := y }) 2 := Foc.via (α := Part) (f := (fun x => (x.Piece, x.From, x.To) : Part → Int × Int × Int)) (hz := rfl) (he := fun _ _ => rfl) (Foc.comp Foc.snd (Foc.snd)) fun _ _ => rfl
structure Flank where
  At : Int
  Kind : Int
  Of : Int
  Lie : Int
instance : GoT Flank := ⟨4, by decide, fun l x => GoT.encL l x.At ++ (GoT.encL l x.Kind ++ (GoT.encL l x.Of ++ (GoT.encL l x.Lie))), fun x => by simp only [List.length_append, GoT.len]; rfl, fun x => by simp only [cleanL_append, GoT.clean]; rfl, fun x => by simp only [List.all_append, GoT.cell]; rfl⟩
instance : GoM Flank := GoM.via (fun x => (x.At, x.Kind, x.Of, x.Lie) : Flank → Int × Int × Int × Int) rfl fun _ _ => rfl
instance : GoFl Flank := ⟨fun G x => GoFl.fl (α := Int × Int × Int × Int) G (x.At, x.Kind, x.Of, x.Lie), fun l x => GoFl.lev (α := Int × Int × Int × Int) l (x.At, x.Kind, x.Of, x.Lie), GoFl.pos (α := Int × Int × Int × Int)⟩
theorem foc_Flank_At : Foc Flank Int (fun x => x.At) (fun x y => { x with At := y }) 0 := Foc.via (α := Flank) (f := (fun x => (x.At, x.Kind, x.Of, x.Lie) : Flank → Int × Int × Int × Int)) (hz := rfl) (he := fun _ _ => rfl) (Foc.fst) fun _ _ => rfl
theorem foc_Flank_Kind : Foc Flank Int (fun x => x.Kind) (fun x y => { x with Kind := y }) 1 := Foc.via (α := Flank) (f := (fun x => (x.At, x.Kind, x.Of, x.Lie) : Flank → Int × Int × Int × Int)) (hz := rfl) (he := fun _ _ => rfl) (Foc.comp Foc.snd (Foc.fst)) fun _ _ => rfl
theorem foc_Flank_Of : Foc Flank Int (fun x => x.Of) (fun x y => { x with Of := y }) 2 := Foc.via (α := Flank) (f := (fun x => (x.At, x.Kind, x.Of, x.Lie) : Flank → Int × Int × Int × Int)) (hz := rfl) (he := fun _ _ => rfl) (Foc.comp Foc.snd (Foc.comp Foc.snd (Foc.fst))) fun _ _ => rfl
theorem foc_Flank_Lie : Foc Flank Int (fun x => x.Lie) (fun x y => { x with Lie := y }) 3 := Foc.via (α := Flank) (f := (fun x => (x.At, x.Kind, x.Of, x.Lie) : Flank → Int × Int × Int × Int)) (hz := rfl) (he := fun _ _ => rfl) (Foc.comp Foc.snd (Foc.comp Foc.snd (Foc.snd))) fun _ _ => rfl
structure Route where
  From : Int
  To : Int
  Steps : List Step
  Lies : List Lie
  Crosses : List Int
  Parts : List Part
  Over : List Part
  Flanks : List Flank
instance : GoT Route := ⟨8, by decide, fun l x => GoT.encL l x.From ++ (GoT.encL l x.To ++ (GoT.encL l x.Steps ++ (GoT.encL l x.Lies ++ (GoT.encL l x.Crosses ++ (GoT.encL l x.Parts ++ (GoT.encL l x.Over ++ (GoT.encL l x.Flanks))))))), fun x => by simp only [List.length_append, GoT.len]; rfl, fun x => by simp only [cleanL_append, GoT.clean]; rfl, fun x => by simp only [List.all_append, GoT.cell]; rfl⟩
instance : GoM Route := GoM.via (fun x => (x.From, x.To, x.Steps, x.Lies, x.Crosses, x.Parts, x.Over, x.Flanks) : Route → Int × Int × (List Step) × (List Lie) × (List Int) × (List Part) × (List Part) × (List Flank)) rfl fun _ _ => rfl
theorem foc_Route_From : Foc Route Int (fun x => x.From) (fun x y => { x with From := y }) 0 := Foc.via (α := Route) (f := (fun x => (x.From, x.To, x.Steps, x.Lies, x.Crosses, x.Parts, x.Over, x.Flanks) : Route → Int × Int × (List Step) × (List Lie) × (List Int) × (List Part) × (List Part) × (List Flank))) (hz := rfl) (he := fun _ _ => rfl) (Foc.fst) fun _ _ => rfl
theorem foc_Route_To : Foc Route Int (fun x => x.To) (fun x y => { x with To := y }) 1 := Foc.via (α := Route) (f := (fun x => (x.From, x.To, x.Steps, x.Lies, x.Crosses, x.Parts, x.Over, x.Flanks) : Route → Int × Int × (List Step) × (List Lie) × (List Int) × (List Part) × (List Part) × (List Flank))) (hz := rfl) (he := fun _ _ => rfl) (Foc.comp Foc.snd (Foc.fst)) fun _ _ => rfl
theorem foc_Route_Steps : Foc Route (List Step) (fun x => x.Steps) (fun x y => { x with Steps := y }) 2 := Foc.via (α := Route) (f := (fun x => (x.From, x.To, x.Steps, x.Lies, x.Crosses, x.Parts, x.Over, x.Flanks) : Route → Int × Int × (List Step) × (List Lie) × (List Int) × (List Part) × (List Part) × (List Flank))) (hz := rfl) (he := fun _ _ => rfl) (Foc.comp Foc.snd (Foc.comp Foc.snd (Foc.fst))) fun _ _ => rfl
theorem foc_Route_Lies : Foc Route (List Lie) (fun x => x.Lies) (fun x y => { x with Lies := y }) 3 := Foc.via (α := Route) (f := (fun x => (x.From, x.To, x.Steps, x.Lies, x.Crosses, x.Parts, x.Over, x.Flanks) : Route → Int × Int × (List Step) × (List Lie) × (List Int) × (List Part) × (List Part) × (List Flank))) (hz := rfl) (he := fun _ _ => rfl) (Foc.comp Foc.snd (Foc.comp Foc.snd (Foc.comp Foc.snd (Foc.fst)))) fun _ _ => rfl
theorem foc_Route_Crosses : Foc Route (List Int) (fun x => x.Crosses) (fun x y => { x with Crosses := y }) 4 := Foc.via (α := Route) (f := (fun x => (x.From, x.To, x.Steps, x.Lies, x.Crosses, x.Parts, x.Over, x.Flanks) : Route → Int × Int × (List Step) × (List Lie) × (List Int) × (List Part) × (List Part) × (List Flank))) (hz := rfl) (he := fun _ _ => rfl) (Foc.comp Foc.snd (Foc.comp Foc.snd (Foc.comp Foc.snd (Foc.comp Foc.snd (Foc.fst))))) fun _ _ => rfl
theorem foc_Route_Parts : Foc Route (List Part) (fun x => x.Parts) (fun x y => { x with Parts := y }) 5 := Foc.via (α := Route) (f := (fun x => (x.From, x.To, x.Steps, x.Lies, x.Crosses, x.Parts, x.Over, x.Flanks) : Route → Int × Int × (List Step) × (List Lie) × (List Int) × (List Part) × (List Part) × (List Flank))) (hz := rfl) (he := fun _ _ => rfl) (Foc.comp Foc.snd (Foc.comp Foc.snd (Foc.comp Foc.snd (Foc.comp Foc.snd (Foc.comp Foc.snd (Foc.fst)))))) fun _ _ => rfl
theorem foc_Route_Over : Foc Route (List Part) (fun x => x.Over) (fun x y => { x with Over := y }) 6 := Foc.via (α := Route) (f := (fun x => (x.From, x.To, x.Steps, x.Lies, x.Crosses, x.Parts, x.Over, x.Flanks) : Route → Int × Int × (List Step) × (List Lie) × (List Int) × (List Part) × (List Part) × (List Flank))) (hz := rfl) (he := fun _ _ => rfl) (Foc.comp Foc.snd (Foc.comp Foc.snd (Foc.comp Foc.snd (Foc.comp Foc.snd (Foc.comp Foc.snd (Foc.comp Foc.snd (Foc.fst))))))) fun _ _ => rfl
theorem foc_Route_Flanks : Foc Route (List Flank) (fun x => x.Flanks) (fun x y => { x with Flanks := y }) 7 := Foc.via (α := Route) (f := (fun x => (x.From, x.To, x.Steps, x.Lies, x.Crosses, x.Parts, x.Over, x.Flanks) : Route → Int × Int × (List Step) × (List Lie) × (List Int) × (List Part) × (List Part) × (List Flank))) (hz := rfl) (he := fun _ _ => rfl) (Foc.comp Foc.snd (Foc.comp Foc.snd (Foc.comp Foc.snd (Foc.comp Foc.snd (Foc.comp Foc.snd (Foc.comp Foc.snd (Foc.snd))))))) fun _ _ => rfl
theorem th_Route {H : Heap} {d n : Nat} {rs rs1 : List Res} {cs : List V} {x : Route} (h : ThV n H d rs cs (x.From, x.To, x.Steps, x.Lies, x.Crosses, x.Parts, x.Over, x.Flanks) rs1) : ThV n H d rs cs x rs1 := h
theorem ls_Route {H G : Heap} {rs : List Res} {S F : List Nat} {x : Route} {cs : List V} {j : Nat} (hO : Owns H G rs) (hj : rs[j]? = some (Tree S F x cs)) (lv n : Nat) (hn : Nat.ble (GoM.dep Route) n = true := by rfl) : ∃ M, lendV lv G (n + 1) (.agg cs) = some (.agg [.int .i64 x.From, .int .i64 x.To, .lit lv x.Steps.length ((flatL 0) x.Steps), .lit lv x.Lies.length ((flatL 0) x.Lies), .lit lv x.Crosses.length ((flatL 0) x.Crosses), .lit lv x.Parts.length ((flatL 0) x.Parts), .lit lv x.Over.length ((flatL 0) x.Over), .lit lv x.Flanks.length ((flatL 0) x.Flanks)], M) := by
  have h := ld_trS hO hj lv n hn
  have e : GoT.encL lv x = [.int .i64 x.From, .int .i64 x.To, .lit lv x.Steps.length ((flatL 0) x.Steps), .lit lv x.Lies.length ((flatL 0) x.Lies), .lit lv x.Crosses.length ((flatL 0) x.Crosses), .lit lv x.Parts.length ((flatL 0) x.Parts), .lit lv x.Over.length ((flatL 0) x.Over), .lit lv x.Flanks.length ((flatL 0) x.Flanks)] := by
    show ([.int .i64 x.From, .int .i64 x.To, .lit lv x.Steps.length (flatL lv x.Steps), .lit lv x.Lies.length (flatL lv x.Lies), .lit lv x.Crosses.length (flatL lv x.Crosses), .lit lv x.Parts.length (flatL lv x.Parts), .lit lv x.Over.length (flatL lv x.Over), .lit lv x.Flanks.length (flatL lv x.Flanks)] : List V) = _
    simp only [flat_lv]
  rwa [e] at h
theorem tS92 : strT Try.prog 92 = some false := by rfl
theorem tE92 : elemT Try.prog 92 = some 60 := by rfl
theorem tZ60 : szOf Try.prog 60 = some 8 := by rfl
theorem tA60 : aggT Try.prog 60 = some true := by rfl
theorem tF60_2 : fieldOff Try.prog 60 2 = some 2 := by rfl
theorem tA55 : aggT Try.prog 55 = some false := by rfl
theorem tS55 : strT Try.prog 55 = some false := by rfl
theorem tF60_3 : fieldOff Try.prog 60 3 = some 3 := by rfl
theorem tA56 : aggT Try.prog 56 = some false := by rfl
theorem tS56 : strT Try.prog 56 = some false := by rfl
theorem tF60_4 : fieldOff Try.prog 60 4 = some 4 := by rfl
theorem tA26 : aggT Try.prog 26 = some false := by rfl
theorem tS26 : strT Try.prog 26 = some false := by rfl
theorem tF60_5 : fieldOff Try.prog 60 5 = some 5 := by rfl
theorem tA57 : aggT Try.prog 57 = some false := by rfl
theorem tS57 : strT Try.prog 57 = some false := by rfl
theorem tF60_6 : fieldOff Try.prog 60 6 = some 6 := by rfl
theorem tF60_7 : fieldOff Try.prog 60 7 = some 7 := by rfl
theorem tA58 : aggT Try.prog 58 = some false := by rfl
theorem tS58 : strT Try.prog 58 = some false := by rfl
theorem tE96 : elemT Try.prog 96 = some 68 := by rfl
theorem tZ68 : szOf Try.prog 68 = some 8 := by rfl
theorem tB68 : bytesOf Try.prog 68 = some 160 := by rfl
theorem t068 : zeroOf Try.prog 68 = some [.int .i64 0, .int .i64 0, (.tl 0 []), (.tl 0 []), (.tl 0 []), (.tl 0 []), (.tl 0 []), (.tl 0 [])] := by rfl
theorem tF60_0 : fieldOff Try.prog 60 0 = some 0 := by rfl
theorem tA3 : aggT Try.prog 3 = some false := by rfl
theorem tF68_0 : fieldOff Try.prog 68 0 = some 0 := by rfl
theorem tZ3 : szOf Try.prog 3 = some 1 := by rfl
theorem tF60_1 : fieldOff Try.prog 60 1 = some 1 := by rfl
theorem tF68_1 : fieldOff Try.prog 68 1 = some 1 := by rfl
theorem tE63 : elemT Try.prog 63 = some 258 := by rfl
theorem tZ258 : szOf Try.prog 258 = some 2 := by rfl
theorem tB258 : bytesOf Try.prog 258 = some 16 := by rfl
theorem t0258 : zeroOf Try.prog 258 = some [.int .i64 0, .int .i64 0] := by rfl
theorem tE55 : elemT Try.prog 55 = some 289 := by rfl
theorem tZ289 : szOf Try.prog 289 = some 2 := by rfl
theorem tA289 : aggT Try.prog 289 = some true := by rfl
theorem tF289_0 : fieldOff Try.prog 289 0 = some 0 := by rfl
theorem tF258_0 : fieldOff Try.prog 258 0 = some 0 := by rfl
theorem tF289_1 : fieldOff Try.prog 289 1 = some 1 := by rfl
theorem tF258_1 : fieldOff Try.prog 258 1 = some 1 := by rfl
theorem tA258 : aggT Try.prog 258 = some true := by rfl
theorem tF68_2 : fieldOff Try.prog 68 2 = some 2 := by rfl
theorem tZ63 : szOf Try.prog 63 = some 1 := by rfl
theorem tE64 : elemT Try.prog 64 = some 206 := by rfl
theorem tZ206 : szOf Try.prog 206 = some 2 := by rfl
theorem tB206 : bytesOf Try.prog 206 = some 16 := by rfl
theorem t0206 : zeroOf Try.prog 206 = some [.int .i64 0, .int .i64 0] := by rfl
theorem tE56 : elemT Try.prog 56 = some 291 := by rfl
theorem tZ291 : szOf Try.prog 291 = some 2 := by rfl
theorem tA291 : aggT Try.prog 291 = some true := by rfl
theorem tF291_0 : fieldOff Try.prog 291 0 = some 0 := by rfl
theorem tF206_0 : fieldOff Try.prog 206 0 = some 0 := by rfl
theorem tF291_1 : fieldOff Try.prog 291 1 = some 1 := by rfl
theorem tF206_1 : fieldOff Try.prog 206 1 = some 1 := by rfl
theorem tA206 : aggT Try.prog 206 = some true := by rfl
theorem tF68_3 : fieldOff Try.prog 68 3 = some 3 := by rfl
theorem tZ64 : szOf Try.prog 64 = some 1 := by rfl
theorem tE26 : elemT Try.prog 26 = some 3 := by rfl
theorem tB3 : bytesOf Try.prog 3 = some 8 := by rfl
theorem t03 : zeroOf Try.prog 3 = some [.int .i64 0] := by rfl
theorem tF68_4 : fieldOff Try.prog 68 4 = some 4 := by rfl
theorem tZ26 : szOf Try.prog 26 = some 1 := by rfl
theorem tE65 : elemT Try.prog 65 = some 271 := by rfl
theorem tZ271 : szOf Try.prog 271 = some 3 := by rfl
theorem tB271 : bytesOf Try.prog 271 = some 24 := by rfl
theorem t0271 : zeroOf Try.prog 271 = some [.int .i64 0, .int .i64 0, .int .i64 0] := by rfl
theorem tE57 : elemT Try.prog 57 = some 293 := by rfl
theorem tZ293 : szOf Try.prog 293 = some 3 := by rfl
theorem tA293 : aggT Try.prog 293 = some true := by rfl
theorem tF293_0 : fieldOff Try.prog 293 0 = some 0 := by rfl
theorem tF271_0 : fieldOff Try.prog 271 0 = some 0 := by rfl
theorem tF293_1 : fieldOff Try.prog 293 1 = some 1 := by rfl
theorem tF271_1 : fieldOff Try.prog 271 1 = some 1 := by rfl
theorem tF293_2 : fieldOff Try.prog 293 2 = some 2 := by rfl
theorem tF271_2 : fieldOff Try.prog 271 2 = some 2 := by rfl
theorem tA271 : aggT Try.prog 271 = some true := by rfl
theorem tF68_5 : fieldOff Try.prog 68 5 = some 5 := by rfl
theorem tZ65 : szOf Try.prog 65 = some 1 := by rfl
theorem tF68_6 : fieldOff Try.prog 68 6 = some 6 := by rfl
theorem tE66 : elemT Try.prog 66 = some 287 := by rfl
theorem tZ287 : szOf Try.prog 287 = some 4 := by rfl
theorem tB287 : bytesOf Try.prog 287 = some 32 := by rfl
theorem t0287 : zeroOf Try.prog 287 = some [.int .i64 0, .int .i64 0, .int .i64 0, .int .i64 0] := by rfl
theorem tE58 : elemT Try.prog 58 = some 295 := by rfl
theorem tZ295 : szOf Try.prog 295 = some 4 := by rfl
theorem tA295 : aggT Try.prog 295 = some true := by rfl
theorem tF295_0 : fieldOff Try.prog 295 0 = some 0 := by rfl
theorem tF287_0 : fieldOff Try.prog 287 0 = some 0 := by rfl
theorem tF295_1 : fieldOff Try.prog 295 1 = some 1 := by rfl
theorem tF287_1 : fieldOff Try.prog 287 1 = some 1 := by rfl
theorem tF295_2 : fieldOff Try.prog 295 2 = some 2 := by rfl
theorem tF287_2 : fieldOff Try.prog 287 2 = some 2 := by rfl
theorem tF295_3 : fieldOff Try.prog 295 3 = some 3 := by rfl
theorem tF287_3 : fieldOff Try.prog 287 3 = some 3 := by rfl
theorem tA287 : aggT Try.prog 287 = some true := by rfl
theorem tF68_7 : fieldOff Try.prog 68 7 = some 7 := by rfl
theorem tZ66 : szOf Try.prog 66 = some 1 := by rfl
theorem tA68 : aggT Try.prog 68 = some true := by rfl
theorem tS96 : strT Try.prog 96 = some false := by rfl
theorem tA65 : aggT Try.prog 65 = some false := by rfl
theorem tS65 : strT Try.prog 65 = some false := by rfl
theorem tA64 : aggT Try.prog 64 = some false := by rfl
theorem tS64 : strT Try.prog 64 = some false := by rfl
theorem tA66 : aggT Try.prog 66 = some false := by rfl
theorem tS66 : strT Try.prog 66 = some false := by rfl
theorem tP206 : placesK Try.prog 206 = some [(0, 1), (1, 1)] := by rfl
theorem tE94 : elemT Try.prog 94 = some 26 := by rfl
theorem t026 : zeroOf Try.prog 26 = some [(.tl 0 [])] := by rfl
theorem tB26 : bytesOf Try.prog 26 = some 24 := by rfl
theorem t064 : zeroOf Try.prog 64 = some [(.tl 0 [])] := by rfl
theorem tG206 : flatT Try.prog 206 = some [.i, .i] := by decide +kernel
theorem tS94 : strT Try.prog 94 = some false := by rfl
theorem tA63 : aggT Try.prog 63 = some false := by rfl
theorem tS63 : strT Try.prog 63 = some false := by rfl
/-- laws.szStepS -/
def f150 (aA0 : List Step) (aLeft1 : Int) : Option Int :=
  (bif decide ((w64 (aLeft1 - (aA0.length : Int))) < (0:Int)) then some (-1:Int) else some (w64 (aLeft1 - (aA0.length : Int))))
theorem f150_run {aA0 : List Step} {aLeft1 : Int} {r : Int} {l1 : Nat} {H : Heap} {lk : Lk} (hk : f150 aA0 aLeft1 = some r) (hlk : 0 < lk.length := by simp) : runL Try.prog hh 150 [.lit l1 aA0.length ((flatL 0) aA0), .int .i64 aLeft1] H lk = some (.int .i64 r, H) := by
  refine run_start Try.func150 rfl Try.ntmps150 Try.results150 rfl rfl fun hO => ?_
  unfold f150 at hk
  refine wpL_sq ?_
  refine wpL_rg ?_
  refine pA (.int _ _) ?_
  refine pE ?_
  refine gn ?_
  refine wpL_sq ?_
  refine wpL_rg ?_
  refine pM (.int _ _) ?_
  refine pM (.lit _ _ _) ?_
  refine pLen tS55 ?_
  refine pBi ?_
  refine pA (.int _ _) ?_
  refine pE ?_
  refine gn ?_
  refine wpL_sq ?_
  refine wpL_sq ?_
  refine wpL_rg ?_
  refine pM (.int _ _) ?_
  refine pBi ?_
  refine pE ?_
  refine gn ?_
  refine wpL_cd (b := decide ((w64 (aLeft1 - (aA0.length : Int))) < (0:Int))) (fun hb => ?_) (fun hb => ?_)
  · replace hk := ct hb hk
    refine wpL_sq ?_
    refine wpL_rg ?_
    refine pA (.int _ _) ?_
    refine pE ?_
    refine gn ?_
    refine wpL_rt ?_
    refine gr ?_
    replace hk := Option.some.inj hk; subst hk; exact fin0 hO
  · replace hk := cf hb hk
    refine wpL_sk ?_
    refine gn ?_
    refine wpL_sq ?_
    refine wpL_rg ?_
    refine pM (.int _ _) ?_
    refine pA (.int _ _) ?_
    refine pE ?_
    refine gn ?_
    refine wpL_rt ?_
    replace hk := Option.some.inj hk; subst hk; exact fin0 hO
/-- laws.szLieS -/
def f151 (aA0 : List Lie) (aLeft1 : Int) : Option Int :=
  (bif decide ((w64 (aLeft1 - (aA0.length : Int))) < (0:Int)) then some (-1:Int) else some (w64 (aLeft1 - (aA0.length : Int))))
theorem f151_run {aA0 : List Lie} {aLeft1 : Int} {r : Int} {l1 : Nat} {H : Heap} {lk : Lk} (hk : f151 aA0 aLeft1 = some r) (hlk : 0 < lk.length := by simp) : runL Try.prog hh 151 [.lit l1 aA0.length ((flatL 0) aA0), .int .i64 aLeft1] H lk = some (.int .i64 r, H) := by
  refine run_start Try.func151 rfl Try.ntmps151 Try.results151 rfl rfl fun hO => ?_
  unfold f151 at hk
  refine wpL_sq ?_
  refine wpL_rg ?_
  refine pA (.int _ _) ?_
  refine pE ?_
  refine gn ?_
  refine wpL_sq ?_
  refine wpL_rg ?_
  refine pM (.int _ _) ?_
  refine pM (.lit _ _ _) ?_
  refine pLen tS56 ?_
  refine pBi ?_
  refine pA (.int _ _) ?_
  refine pE ?_
  refine gn ?_
  refine wpL_sq ?_
  refine wpL_sq ?_
  refine wpL_rg ?_
  refine pM (.int _ _) ?_
  refine pBi ?_
  refine pE ?_
  refine gn ?_
  refine wpL_cd (b := decide ((w64 (aLeft1 - (aA0.length : Int))) < (0:Int))) (fun hb => ?_) (fun hb => ?_)
  · replace hk := ct hb hk
    refine wpL_sq ?_
    refine wpL_rg ?_
    refine pA (.int _ _) ?_
    refine pE ?_
    refine gn ?_
    refine wpL_rt ?_
    refine gr ?_
    replace hk := Option.some.inj hk; subst hk; exact fin0 hO
  · replace hk := cf hb hk
    refine wpL_sk ?_
    refine gn ?_
    refine wpL_sq ?_
    refine wpL_rg ?_
    refine pM (.int _ _) ?_
    refine pA (.int _ _) ?_
    refine pE ?_
    refine gn ?_
    refine wpL_rt ?_
    replace hk := Option.some.inj hk; subst hk; exact fin0 hO
/-- laws.szIntS -/
def f138 (aA0 : List Int) (aLeft1 : Int) : Option Int :=
  (bif decide ((w64 (aLeft1 - (aA0.length : Int))) < (0:Int)) then some (-1:Int) else some (w64 (aLeft1 - (aA0.length : Int))))
theorem f138_run {aA0 : List Int} {aLeft1 : Int} {r : Int} {l1 : Nat} {H : Heap} {lk : Lk} (hk : f138 aA0 aLeft1 = some r) (hlk : 0 < lk.length := by simp) : runL Try.prog hh 138 [.lit l1 aA0.length ((flatL 0) aA0), .int .i64 aLeft1] H lk = some (.int .i64 r, H) := by
  refine run_start Try.func138 rfl Try.ntmps138 Try.results138 rfl rfl fun hO => ?_
  unfold f138 at hk
  refine wpL_sq ?_
  refine wpL_rg ?_
  refine pA (.int _ _) ?_
  refine pE ?_
  refine gn ?_
  refine wpL_sq ?_
  refine wpL_rg ?_
  refine pM (.int _ _) ?_
  refine pM (.lit _ _ _) ?_
  refine pLen tS26 ?_
  refine pBi ?_
  refine pA (.int _ _) ?_
  refine pE ?_
  refine gn ?_
  refine wpL_sq ?_
  refine wpL_sq ?_
  refine wpL_rg ?_
  refine pM (.int _ _) ?_
  refine pBi ?_
  refine pE ?_
  refine gn ?_
  refine wpL_cd (b := decide ((w64 (aLeft1 - (aA0.length : Int))) < (0:Int))) (fun hb => ?_) (fun hb => ?_)
  · replace hk := ct hb hk
    refine wpL_sq ?_
    refine wpL_rg ?_
    refine pA (.int _ _) ?_
    refine pE ?_
    refine gn ?_
    refine wpL_rt ?_
    refine gr ?_
    replace hk := Option.some.inj hk; subst hk; exact fin0 hO
  · replace hk := cf hb hk
    refine wpL_sk ?_
    refine gn ?_
    refine wpL_sq ?_
    refine wpL_rg ?_
    refine pM (.int _ _) ?_
    refine pA (.int _ _) ?_
    refine pE ?_
    refine gn ?_
    refine wpL_rt ?_
    replace hk := Option.some.inj hk; subst hk; exact fin0 hO
/-- laws.szPartS -/
def f152 (aA0 : List Part) (aLeft1 : Int) : Option Int :=
  (bif decide ((w64 (aLeft1 - (aA0.length : Int))) < (0:Int)) then some (-1:Int) else some (w64 (aLeft1 - (aA0.length : Int))))
theorem f152_run {aA0 : List Part} {aLeft1 : Int} {r : Int} {l1 : Nat} {H : Heap} {lk : Lk} (hk : f152 aA0 aLeft1 = some r) (hlk : 0 < lk.length := by simp) : runL Try.prog hh 152 [.lit l1 aA0.length ((flatL 0) aA0), .int .i64 aLeft1] H lk = some (.int .i64 r, H) := by
  refine run_start Try.func152 rfl Try.ntmps152 Try.results152 rfl rfl fun hO => ?_
  unfold f152 at hk
  refine wpL_sq ?_
  refine wpL_rg ?_
  refine pA (.int _ _) ?_
  refine pE ?_
  refine gn ?_
  refine wpL_sq ?_
  refine wpL_rg ?_
  refine pM (.int _ _) ?_
  refine pM (.lit _ _ _) ?_
  refine pLen tS57 ?_
  refine pBi ?_
  refine pA (.int _ _) ?_
  refine pE ?_
  refine gn ?_
  refine wpL_sq ?_
  refine wpL_sq ?_
  refine wpL_rg ?_
  refine pM (.int _ _) ?_
  refine pBi ?_
  refine pE ?_
  refine gn ?_
  refine wpL_cd (b := decide ((w64 (aLeft1 - (aA0.length : Int))) < (0:Int))) (fun hb => ?_) (fun hb => ?_)
  · replace hk := ct hb hk
    refine wpL_sq ?_
    refine wpL_rg ?_
    refine pA (.int _ _) ?_
    refine pE ?_
    refine gn ?_
    refine wpL_rt ?_
    refine gr ?_
    replace hk := Option.some.inj hk; subst hk; exact fin0 hO
  · replace hk := cf hb hk
    refine wpL_sk ?_
    refine gn ?_
    refine wpL_sq ?_
    refine wpL_rg ?_
    refine pM (.int _ _) ?_
    refine pA (.int _ _) ?_
    refine pE ?_
    refine gn ?_
    refine wpL_rt ?_
    replace hk := Option.some.inj hk; subst hk; exact fin0 hO
/-- laws.szFlankS -/
def f153 (aA0 : List Flank) (aLeft1 : Int) : Option Int :=
  (bif decide ((w64 (aLeft1 - (aA0.length : Int))) < (0:Int)) then some (-1:Int) else some (w64 (aLeft1 - (aA0.length : Int))))
theorem f153_run {aA0 : List Flank} {aLeft1 : Int} {r : Int} {l1 : Nat} {H : Heap} {lk : Lk} (hk : f153 aA0 aLeft1 = some r) (hlk : 0 < lk.length := by simp) : runL Try.prog hh 153 [.lit l1 aA0.length ((flatL 0) aA0), .int .i64 aLeft1] H lk = some (.int .i64 r, H) := by
  refine run_start Try.func153 rfl Try.ntmps153 Try.results153 rfl rfl fun hO => ?_
  unfold f153 at hk
  refine wpL_sq ?_
  refine wpL_rg ?_
  refine pA (.int _ _) ?_
  refine pE ?_
  refine gn ?_
  refine wpL_sq ?_
  refine wpL_rg ?_
  refine pM (.int _ _) ?_
  refine pM (.lit _ _ _) ?_
  refine pLen tS58 ?_
  refine pBi ?_
  refine pA (.int _ _) ?_
  refine pE ?_
  refine gn ?_
  refine wpL_sq ?_
  refine wpL_sq ?_
  refine wpL_rg ?_
  refine pM (.int _ _) ?_
  refine pBi ?_
  refine pE ?_
  refine gn ?_
  refine wpL_cd (b := decide ((w64 (aLeft1 - (aA0.length : Int))) < (0:Int))) (fun hb => ?_) (fun hb => ?_)
  · replace hk := ct hb hk
    refine wpL_sq ?_
    refine wpL_rg ?_
    refine pA (.int _ _) ?_
    refine pE ?_
    refine gn ?_
    refine wpL_rt ?_
    refine gr ?_
    replace hk := Option.some.inj hk; subst hk; exact fin0 hO
  · replace hk := cf hb hk
    refine wpL_sk ?_
    refine gn ?_
    refine wpL_sq ?_
    refine wpL_rg ?_
    refine pM (.int _ _) ?_
    refine pA (.int _ _) ?_
    refine pE ?_
    refine gn ?_
    refine wpL_rt ?_
    replace hk := Option.some.inj hk; subst hk; exact fin0 hO
/-- laws.szRoute -/
def f46 (aA0 : Route) (aLeft1 : Int) : Option Int :=
  ((f150 aA0.Steps aLeft1).bind fun v2 => (bif decide (v2 < (0:Int)) then some (-1:Int) else ((f151 aA0.Lies v2).bind fun v3 => (bif decide (v3 < (0:Int)) then some (-1:Int) else ((f138 aA0.Crosses v3).bind fun v4 => (bif decide (v4 < (0:Int)) then some (-1:Int) else ((f152 aA0.Parts v4).bind fun v5 => (bif decide (v5 < (0:Int)) then some (-1:Int) else ((f152 aA0.Over v5).bind fun v6 => (bif decide (v6 < (0:Int)) then some (-1:Int) else ((f153 aA0.Flanks v6).bind fun v7 => (bif decide (v7 < (0:Int)) then some (-1:Int) else some v7))))))))))))
theorem f46_run {aA0 : Route} {aLeft1 : Int} {r : Int} {l1 l2 l3 l4 l5 l6 : Nat} {H : Heap} {lk : Lk} (hk : f46 aA0 aLeft1 = some r) (hlk : 0 < lk.length := by simp) : runL Try.prog hh 46 [.agg [.int .i64 aA0.From, .int .i64 aA0.To, .lit l1 aA0.Steps.length ((flatL 0) aA0.Steps), .lit l2 aA0.Lies.length ((flatL 0) aA0.Lies), .lit l3 aA0.Crosses.length ((flatL 0) aA0.Crosses), .lit l4 aA0.Parts.length ((flatL 0) aA0.Parts), .lit l5 aA0.Over.length ((flatL 0) aA0.Over), .lit l6 aA0.Flanks.length ((flatL 0) aA0.Flanks)], .int .i64 aLeft1] H lk = some (.int .i64 r, H) := by
  refine run_start Try.func46 rfl Try.ntmps46 Try.results46 rfl rfl fun hO => ?_
  unfold f46 at hk
  refine wpL_sq ?_
  refine wpL_rg ?_
  refine pBox (cs := [_, _, _, _, _, _, _, _]) hO tZ60 (fun b1 G hO => ?_)
  refine pA (.int _ _) ?_
  refine pE ?_
  refine gn ?_
  refine wpL_sq ?_
  refine wpL_rg ?_
  refine pF tF60_2 ?_
  refine pLo hO 0 (.lit _ _ _) tA55 ?_
  refine pM (.int _ _) ?_
  obtain ⟨v2, hv2, hk⟩ := bs hk
  refine pCall (fun _ => f150_run hv2) ?_
  refine pA (.int _ _) ?_
  refine pE ?_
  refine gn ?_
  refine wpL_sq ?_
  refine wpL_sq ?_
  refine wpL_rg ?_
  refine pM (.int _ _) ?_
  refine pBi ?_
  refine pE ?_
  refine gn ?_
  refine wpL_cd (b := decide (v2 < (0:Int))) (fun hb => ?_) (fun hb => ?_)
  · replace hk := ct hb hk
    refine wpL_sq ?_
    refine wpL_rg ?_
    refine pA (.int _ _) ?_
    refine pE ?_
    refine gn ?_
    refine wpL_rt ?_
    refine gr ?_
    replace hk := Option.some.inj hk; subst hk; exact fin0 hO
  · replace hk := cf hb hk
    refine wpL_sk ?_
    refine gn ?_
    refine wpL_sq ?_
    refine wpL_rg ?_
    refine pF tF60_3 ?_
    refine pLo hO 0 (.lit _ _ _) tA56 ?_
    refine pM (.int _ _) ?_
    obtain ⟨v3, hv3, hk⟩ := bs hk
    refine pCall (fun _ => f151_run hv3) ?_
    refine pA (.int _ _) ?_
    refine pE ?_
    refine gn ?_
    refine wpL_sq ?_
    refine wpL_sq ?_
    refine wpL_rg ?_
    refine pM (.int _ _) ?_
    refine pBi ?_
    refine pE ?_
    refine gn ?_
    refine wpL_cd (b := decide (v3 < (0:Int))) (fun hb => ?_) (fun hb => ?_)
    · replace hk := ct hb hk
      refine wpL_sq ?_
      refine wpL_rg ?_
      refine pA (.int _ _) ?_
      refine pE ?_
      refine gn ?_
      refine wpL_rt ?_
      refine gr ?_
      replace hk := Option.some.inj hk; subst hk; exact fin0 hO
    · replace hk := cf hb hk
      refine wpL_sk ?_
      refine gn ?_
      refine wpL_sq ?_
      refine wpL_rg ?_
      refine pF tF60_4 ?_
      refine pLo hO 0 (.lit _ _ _) tA26 ?_
      refine pM (.int _ _) ?_
      obtain ⟨v4, hv4, hk⟩ := bs hk
      refine pCall (fun _ => f138_run hv4) ?_
      refine pA (.int _ _) ?_
      refine pE ?_
      refine gn ?_
      refine wpL_sq ?_
      refine wpL_sq ?_
      refine wpL_rg ?_
      refine pM (.int _ _) ?_
      refine pBi ?_
      refine pE ?_
      refine gn ?_
      refine wpL_cd (b := decide (v4 < (0:Int))) (fun hb => ?_) (fun hb => ?_)
      · replace hk := ct hb hk
        refine wpL_sq ?_
        refine wpL_rg ?_
        refine pA (.int _ _) ?_
        refine pE ?_
        refine gn ?_
        refine wpL_rt ?_
        refine gr ?_
        replace hk := Option.some.inj hk; subst hk; exact fin0 hO
      · replace hk := cf hb hk
        refine wpL_sk ?_
        refine gn ?_
        refine wpL_sq ?_
        refine wpL_rg ?_
        refine pF tF60_5 ?_
        refine pLo hO 0 (.lit _ _ _) tA57 ?_
        refine pM (.int _ _) ?_
        obtain ⟨v5, hv5, hk⟩ := bs hk
        refine pCall (fun _ => f152_run hv5) ?_
        refine pA (.int _ _) ?_
        refine pE ?_
        refine gn ?_
        refine wpL_sq ?_
        refine wpL_sq ?_
        refine wpL_rg ?_
        refine pM (.int _ _) ?_
        refine pBi ?_
        refine pE ?_
        refine gn ?_
        refine wpL_cd (b := decide (v5 < (0:Int))) (fun hb => ?_) (fun hb => ?_)
        · replace hk := ct hb hk
          refine wpL_sq ?_
          refine wpL_rg ?_
          refine pA (.int _ _) ?_
          refine pE ?_
          refine gn ?_
          refine wpL_rt ?_
          refine gr ?_
          replace hk := Option.some.inj hk; subst hk; exact fin0 hO
        · replace hk := cf hb hk
          refine wpL_sk ?_
          refine gn ?_
          refine wpL_sq ?_
          refine wpL_rg ?_
          refine pF tF60_6 ?_
          refine pLo hO 0 (.lit _ _ _) tA57 ?_
          refine pM (.int _ _) ?_
          obtain ⟨v6, hv6, hk⟩ := bs hk
          refine pCall (fun _ => f152_run hv6) ?_
          refine pA (.int _ _) ?_
          refine pE ?_
          refine gn ?_
          refine wpL_sq ?_
          refine wpL_sq ?_
          refine wpL_rg ?_
          refine pM (.int _ _) ?_
          refine pBi ?_
          refine pE ?_
          refine gn ?_
          refine wpL_cd (b := decide (v6 < (0:Int))) (fun hb => ?_) (fun hb => ?_)
          · replace hk := ct hb hk
            refine wpL_sq ?_
            refine wpL_rg ?_
            refine pA (.int _ _) ?_
            refine pE ?_
            refine gn ?_
            refine wpL_rt ?_
            refine gr ?_
            replace hk := Option.some.inj hk; subst hk; exact fin0 hO
          · replace hk := cf hb hk
            refine wpL_sk ?_
            refine gn ?_
            refine wpL_sq ?_
            refine wpL_rg ?_
            refine pF tF60_7 ?_
            refine pLo hO 0 (.lit _ _ _) tA58 ?_
            refine pM (.int _ _) ?_
            obtain ⟨v7, hv7, hk⟩ := bs hk
            refine pCall (fun _ => f153_run hv7) ?_
            refine pA (.int _ _) ?_
            refine pE ?_
            refine gn ?_
            refine wpL_sq ?_
            refine wpL_sq ?_
            refine wpL_rg ?_
            refine pM (.int _ _) ?_
            refine pBi ?_
            refine pE ?_
            refine gn ?_
            refine wpL_cd (b := decide (v7 < (0:Int))) (fun hb => ?_) (fun hb => ?_)
            · replace hk := ct hb hk
              refine wpL_sq ?_
              refine wpL_rg ?_
              refine pA (.int _ _) ?_
              refine pE ?_
              refine gn ?_
              refine wpL_rt ?_
              refine gr ?_
              replace hk := Option.some.inj hk; subst hk; exact fin0 hO
            · replace hk := cf hb hk
              refine wpL_sk ?_
              refine gn ?_
              refine wpL_sq ?_
              refine wpL_rg ?_
              refine pM (.int _ _) ?_
              refine pA (.int _ _) ?_
              refine pE ?_
              refine gn ?_
              refine wpL_rt ?_
              replace hk := Option.some.inj hk; subst hk; exact fin0 hO
/-- laws.szRouteS -/
def f60_L1 (aA0 : List Route) : (Int × Int) → Option ((Int × Int) ⊕ Int) := fun s =>
  (bif decide (s.2 < (aA0.length : Int)) then ((getI aA0 s.2).bind fun c3 => ((f46 c3 s.1).bind fun v4 => (bif decide (v4 < (0:Int)) then ((some (-1:Int)).map Sum.inr) else some (.inl (v4, w64 (s.2 + (1:Int))))))) else ((some s.1).map Sum.inr))
def f60 (aA0 : List Route) (aLeft1 : Int) : Option Int :=
  (bif decide ((w64 (aLeft1 - (aA0.length : Int))) < (0:Int)) then some (-1:Int) else (loopO (f60_L1 aA0) (w64 (aLeft1 - (aA0.length : Int)), (0:Int))))
theorem f60_run {aA0 : List Route} {aLeft1 : Int} {r : Int} {l1 m2 : Nat} {H : Heap} {lk : Lk} (hk : f60 aA0 aLeft1 = some r) (hlk : 0 < lk.length := by simp) : runL Try.prog hh 60 [.lit l1 aA0.length (flatL m2 aA0), .int .i64 aLeft1] H lk = some (.int .i64 r, H) := by
  refine run_start Try.func60 rfl Try.ntmps60 Try.results60 rfl rfl fun hO => ?_
  unfold f60 at hk
  refine wpL_sq ?_
  refine wpL_rg ?_
  refine pA (.int _ _) ?_
  refine pE ?_
  refine gn ?_
  refine wpL_sq ?_
  refine wpL_rg ?_
  refine pM (.int _ _) ?_
  refine pM (.lit _ _ _) ?_
  refine pLen tS92 ?_
  refine pBi ?_
  refine pA (.int _ _) ?_
  refine pE ?_
  refine gn ?_
  refine wpL_sq ?_
  refine wpL_sq ?_
  refine wpL_rg ?_
  refine pM (.int _ _) ?_
  refine pBi ?_
  refine pE ?_
  refine gn ?_
  refine wpL_cd (b := decide ((w64 (aLeft1 - (aA0.length : Int))) < (0:Int))) (fun hb => ?_) (fun hb => ?_)
  · replace hk := ct hb hk
    refine wpL_sq ?_
    refine wpL_rg ?_
    refine pA (.int _ _) ?_
    refine pE ?_
    refine gn ?_
    refine wpL_rt ?_
    refine gr ?_
    replace hk := Option.some.inj hk; subst hk; exact fin0 hO
  · replace hk := cf hb hk
    refine wpL_sk ?_
    refine gn ?_
    refine wpL_sq ?_
    refine wpL_sq ?_
    refine wpL_rg ?_
    refine pA (.int _ _) ?_
    refine pE ?_
    refine gn ?_
    refine wpL_bl ?_
    refine wpL_loopO (F := f60_L1 aA0) (fun s S' => ∃ (J : Nat → V) (G : Heap), Owns H G [] ∧ S' = ⟨hav [(0, .lit l1 aA0.length (flatL m2 aA0)), (1, .int .i64 s.1), (5, .int .i64 s.2)] J, G⟩) hk ⟨_, _, hO, St.hav _ ⟨rfl, rfl, rfl, trivial⟩⟩ ?_
    rintro ⟨x1, x2⟩ _ y1 ⟨J, G, hO, rfl⟩ hk hx1
    refine wpL_sq ?_
    refine wpL_sq ?_
    refine wpL_rg ?_
    refine pM (.int _ _) ?_
    refine pM (.lit _ _ _) ?_
    refine pLen tS92 ?_
    refine pBi ?_
    refine pE ?_
    refine gn ?_
    refine wpL_cd (b := decide (x2 < (aA0.length : Int))) (fun hb => ?_) (fun hb => ?_)
    · replace hk := ct hb hk
      refine wpL_sk ?_
      refine gn ?_
      refine wpL_sq ?_
      refine wpL_bl ?_
      refine wpL_sq ?_
      refine wpL_rg ?_
      refine pM (.lit _ _ _) ?_
      refine pM (.int _ _) ?_
      obtain ⟨c3, hc3, hk⟩ := bs hk
      refine pX hc3 tE92 tZ60 ?_
      refine pLp (.agg [_, _, _, _, _, _, _, _]) (rd2 (lm := m2) (off := 0) hc3 tA60 tZ60) ?_
      refine pM (.int _ _) ?_
      obtain ⟨v4, hv4, hk⟩ := bs hk
      refine pCall (fun _ => f46_run hv4) ?_
      refine pA (.int _ _) ?_
      refine pE ?_
      refine gn ?_
      refine wpL_sq ?_
      refine wpL_rg ?_
      refine pM (.int _ _) ?_
      refine pBi ?_
      refine pE ?_
      refine gn ?_
      refine wpL_cd (b := decide (v4 < (0:Int))) (fun hb => ?_) (fun hb => ?_)
      · replace hk := ct hb hk
        refine wpL_sq ?_
        refine wpL_rg ?_
        refine pA (.int _ _) ?_
        refine pE ?_
        refine gn ?_
        refine wpL_rt ?_
        refine br (gr (gr (br (gr ?_))))
        replace hk := lx hx1 hk
        replace hk := Option.some.inj hk; subst hk; exact fin0 hO
      · replace hk := cf hb hk
        refine wpL_sk ?_
        refine bn (gn ?_)
        refine wpL_rg ?_
        refine pM (.int _ _) ?_
        refine pBi ?_
        refine pA (.int _ _) ?_
        refine pE ?_
        refine gn ?_
        cases hk; exact ⟨_, rfl, _, _, hO, St.hav _ ⟨rfl, rfl, rfl, trivial⟩⟩
    · replace hk := cf hb hk
      refine wpL_ex ?_
      refine ge (ge (be (gn ?_)))
      replace hk := lx hx1 hk
      refine wpL_sq ?_
      refine wpL_rg ?_
      refine pM (.int _ _) ?_
      refine pA (.int _ _) ?_
      refine pE ?_
      refine gn ?_
      refine wpL_rt ?_
      replace hk := Option.some.inj hk; subst hk; exact fin0 hO
/-- laws.toStep -/
def f256 (aA0 : Step) : Option Step :=
  some aA0
theorem f256_run {aA0 : Step} {r : Step} {H : Heap} {lk : Lk} (hk : f256 aA0 = some r) (hlk : 0 < lk.length := by simp) : runL Try.prog hh 256 [.agg [.int .i64 aA0.Piece, .int .i64 aA0.Way]] H lk = some (.agg [.int .i64 r.Piece, .int .i64 r.Way], H) := by
  refine run_start Try.func256 rfl Try.ntmps256 Try.results256 rfl rfl fun hO => ?_
  unfold f256 at hk
  refine wpL_sq ?_
  refine wpL_rg ?_
  refine pBox (cs := [_, _]) hO tZ289 (fun b1 G hO => ?_)
  refine pNew hO tZ258 t0258 (fun b2 G hO => ?_)
  refine pE ?_
  refine gn ?_
  refine wpL_sq ?_
  refine wpL_rg ?_
  refine pNew hO tZ258 t0258 (fun b3 G hO => ?_)
  refine pE ?_
  refine gn ?_
  refine wpL_sq ?_
  refine wpL_rg ?_
  refine pF tF289_0 ?_
  refine pLo hO 2 (.int _ _) tA3 ?_
  refine pF tF258_0 ?_
  refine pSt (xs := [_]) hO 0 tZ3 rfl (fun G hO => ?_)
  refine pE ?_
  refine gn ?_
  refine wpL_sq ?_
  refine wpL_rg ?_
  refine pF tF289_1 ?_
  refine pLo hO 2 (.int _ _) tA3 ?_
  refine pF tF258_1 ?_
  refine pSt (xs := [_]) hO 0 tZ3 rfl (fun G hO => ?_)
  refine pE ?_
  refine gn ?_
  refine wpL_sq ?_
  refine wpL_rg ?_
  refine pLs hO 0 [_, _] tA258 tZ258 ?_
  refine pSt (xs := [_, _]) hO 1 tZ258 rfl (fun G hO => ?_)
  refine pE ?_
  refine gn ?_
  refine wpL_rt ?_
  replace hk := Option.some.inj hk; subst hk; exact finZ hO (fz_agg (n := 2) (fz_c (fz_int _ _) (fz_c (fz_int _ _) (fz_n)))) (resS hO 1 [_, _] tA258 tZ258 resN)
/-- laws.toStepS -/
def f156_L1 (aA0 : List Step) : ((List Step) × Int) → Option (((List Step) × Int) ⊕ (List Step)) := fun s =>
  (bif decide (s.2 < (aA0.length : Int)) then ((getI aA0 s.2).bind fun c5 => ((f256 c5).bind fun v6 => ((getI s.1 s.2).bind fun c7 => some (.inl (s.1.set s.2.toNat v6, w64 (s.2 + (1:Int))))))) else ((some s.1).map Sum.inr))
def f156 (aA0 : List Step) : Option (List Step) :=
  ((makeB 16 (aA0.length : Int)).bind fun m1 => (loopO (f156_L1 aA0) (List.replicate m1 (⟨0, 0⟩ : Step), (0:Int))))
theorem f156_run {aA0 : List Step} {r : (List Step)} {l1 : Nat} {H : Heap} {lk : Lk} (hk : f156 aA0 = some r) (hlk : 0 < lk.length := by simp) : ∃ v H1, runL Try.prog hh 156 [.lit l1 aA0.length ((flatL 0) aA0)] H lk = some (v, H1) ∧ FreshL H r v H1 := by
  refine run_startR Try.func156 rfl Try.ntmps156 Try.results156 rfl rfl ?_
  have hO := Owns.nil H
  unfold f156 at hk
  refine wpL_sq ?_
  refine wpL_rg ?_
  refine pA (.tl 0 []) ?_
  refine pE ?_
  refine gn ?_
  refine wpL_sq ?_
  refine wpL_rg ?_
  refine pM (.lit _ _ _) ?_
  refine pLen tS55 ?_
  obtain ⟨m1, hm1, hk⟩ := bs hk
  refine pMk hO hm1 (⟨0, 0⟩ : Step) tE63 tZ258 tB258 t0258 (fun b2 G hO => ?_)
  refine pA (.sl _ _ _) ?_
  refine pE ?_
  refine gn ?_
  refine wpL_sq ?_
  refine wpL_sq ?_
  refine wpL_rg ?_
  refine pA (.int _ _) ?_
  refine pE ?_
  refine gn ?_
  refine wpL_bl ?_
  refine wpL_loopO (F := f156_L1 aA0) (fun s S' => ∃ (J : Nat → V) (G : Heap), s.1.length = m1 ∧ Owns H G [.blk b2 (.cells 2 ((flatL 0) s.1))] ∧ S' = ⟨hav [(0, .lit l1 aA0.length ((flatL 0) aA0)), (3, .sl b2 0 m1), (4, .int .i64 s.2)] J, G⟩) hk ⟨_, _, List.length_replicate, hO, St.hav _ ⟨rfl, rfl, rfl, trivial⟩⟩ ?_
  rintro ⟨x3, x4⟩ _ y1 ⟨J, G, hl3, hO, rfl⟩ hk hx1
  refine wpL_sq ?_
  refine wpL_sq ?_
  refine wpL_rg ?_
  refine pM (.int _ _) ?_
  refine pM (.lit _ _ _) ?_
  refine pLen tS55 ?_
  refine pBi ?_
  refine pE ?_
  refine gn ?_
  refine wpL_cd (b := decide (x4 < (aA0.length : Int))) (fun hb => ?_) (fun hb => ?_)
  · replace hk := ct hb hk
    refine wpL_sk ?_
    refine gn ?_
    refine wpL_sq ?_
    refine wpL_bl ?_
    refine wpL_rg ?_
    refine pM (.sl _ _ _) ?_
    refine pM (.int _ _) ?_
    refine pM (.lit _ _ _) ?_
    refine pM (.int _ _) ?_
    obtain ⟨c5, hc5, hk⟩ := bs hk
    refine pX hc5 tE55 tZ289 ?_
    refine pLp (.agg [_, _]) (rd2 (lm := 0) (off := 0) hc5 tA289 tZ289) ?_
    obtain ⟨v6, hv6, hk⟩ := bs hk
    refine pCall (fun _ => f256_run hv6) ?_
    obtain ⟨c7, hc7, hk⟩ := bs hk
    refine pXm hl3 hc7 tE63 tZ258 ?_
    refine pSm hO 0 hc7 tZ258 rfl v6 (.agg [_, _]) (fun G hO => ?_)
    refine pE ?_
    refine bn (gn ?_)
    refine wpL_rg ?_
    refine pM (.int _ _) ?_
    refine pBi ?_
    refine pA (.int _ _) ?_
    refine pE ?_
    refine gn ?_
    cases hk; exact ⟨_, rfl, _, _, (List.length_set.trans hl3), hO, St.hav _ ⟨rfl, rfl, rfl, trivial⟩⟩
  · replace hk := cf hb hk
    refine wpL_ex ?_
    refine ge (ge (be (gn ?_)))
    replace hk := lx hx1 hk
    refine wpL_sq ?_
    refine wpL_rg ?_
    refine pM (.sl _ _ _) ?_
    refine pA (.sl _ _ _) ?_
    refine pE ?_
    refine gn ?_
    refine wpL_rt ?_
    replace hk := Option.some.inj hk; subst hk; exact finThL hO (th_made (xs := x3) hl3 hlk 0) (resT (.sl _ _ _) resN)
/-- laws.toLie -/
def f257 (aA0 : Lie) : Option Lie :=
  some aA0
theorem f257_run {aA0 : Lie} {r : Lie} {H : Heap} {lk : Lk} (hk : f257 aA0 = some r) (hlk : 0 < lk.length := by simp) : runL Try.prog hh 257 [.agg [.int .i64 aA0.Joint, .int .i64 aA0.Lie]] H lk = some (.agg [.int .i64 r.Joint, .int .i64 r.Lie], H) := by
  refine run_start Try.func257 rfl Try.ntmps257 Try.results257 rfl rfl fun hO => ?_
  unfold f257 at hk
  refine wpL_sq ?_
  refine wpL_rg ?_
  refine pBox (cs := [_, _]) hO tZ291 (fun b1 G hO => ?_)
  refine pNew hO tZ206 t0206 (fun b2 G hO => ?_)
  refine pE ?_
  refine gn ?_
  refine wpL_sq ?_
  refine wpL_rg ?_
  refine pNew hO tZ206 t0206 (fun b3 G hO => ?_)
  refine pE ?_
  refine gn ?_
  refine wpL_sq ?_
  refine wpL_rg ?_
  refine pF tF291_0 ?_
  refine pLo hO 2 (.int _ _) tA3 ?_
  refine pF tF206_0 ?_
  refine pSt (xs := [_]) hO 0 tZ3 rfl (fun G hO => ?_)
  refine pE ?_
  refine gn ?_
  refine wpL_sq ?_
  refine wpL_rg ?_
  refine pF tF291_1 ?_
  refine pLo hO 2 (.int _ _) tA3 ?_
  refine pF tF206_1 ?_
  refine pSt (xs := [_]) hO 0 tZ3 rfl (fun G hO => ?_)
  refine pE ?_
  refine gn ?_
  refine wpL_sq ?_
  refine wpL_rg ?_
  refine pLs hO 0 [_, _] tA206 tZ206 ?_
  refine pSt (xs := [_, _]) hO 1 tZ206 rfl (fun G hO => ?_)
  refine pE ?_
  refine gn ?_
  refine wpL_rt ?_
  replace hk := Option.some.inj hk; subst hk; exact finZ hO (fz_agg (n := 2) (fz_c (fz_int _ _) (fz_c (fz_int _ _) (fz_n)))) (resS hO 1 [_, _] tA206 tZ206 resN)
/-- laws.toLieS -/
def f157_L1 (aA0 : List Lie) : ((List Lie) × Int) → Option (((List Lie) × Int) ⊕ (List Lie)) := fun s =>
  (bif decide (s.2 < (aA0.length : Int)) then ((getI aA0 s.2).bind fun c5 => ((f257 c5).bind fun v6 => ((getI s.1 s.2).bind fun c7 => some (.inl (s.1.set s.2.toNat v6, w64 (s.2 + (1:Int))))))) else ((some s.1).map Sum.inr))
def f157 (aA0 : List Lie) : Option (List Lie) :=
  ((makeB 16 (aA0.length : Int)).bind fun m1 => (loopO (f157_L1 aA0) (List.replicate m1 (⟨0, 0⟩ : Lie), (0:Int))))
theorem f157_run {aA0 : List Lie} {r : (List Lie)} {l1 : Nat} {H : Heap} {lk : Lk} (hk : f157 aA0 = some r) (hlk : 0 < lk.length := by simp) : ∃ v H1, runL Try.prog hh 157 [.lit l1 aA0.length ((flatL 0) aA0)] H lk = some (v, H1) ∧ FreshL H r v H1 := by
  refine run_startR Try.func157 rfl Try.ntmps157 Try.results157 rfl rfl ?_
  have hO := Owns.nil H
  unfold f157 at hk
  refine wpL_sq ?_
  refine wpL_rg ?_
  refine pA (.tl 0 []) ?_
  refine pE ?_
  refine gn ?_
  refine wpL_sq ?_
  refine wpL_rg ?_
  refine pM (.lit _ _ _) ?_
  refine pLen tS56 ?_
  obtain ⟨m1, hm1, hk⟩ := bs hk
  refine pMk hO hm1 (⟨0, 0⟩ : Lie) tE64 tZ206 tB206 t0206 (fun b2 G hO => ?_)
  refine pA (.sl _ _ _) ?_
  refine pE ?_
  refine gn ?_
  refine wpL_sq ?_
  refine wpL_sq ?_
  refine wpL_rg ?_
  refine pA (.int _ _) ?_
  refine pE ?_
  refine gn ?_
  refine wpL_bl ?_
  refine wpL_loopO (F := f157_L1 aA0) (fun s S' => ∃ (J : Nat → V) (G : Heap), s.1.length = m1 ∧ Owns H G [.blk b2 (.cells 2 ((flatL 0) s.1))] ∧ S' = ⟨hav [(0, .lit l1 aA0.length ((flatL 0) aA0)), (3, .sl b2 0 m1), (4, .int .i64 s.2)] J, G⟩) hk ⟨_, _, List.length_replicate, hO, St.hav _ ⟨rfl, rfl, rfl, trivial⟩⟩ ?_
  rintro ⟨x3, x4⟩ _ y1 ⟨J, G, hl3, hO, rfl⟩ hk hx1
  refine wpL_sq ?_
  refine wpL_sq ?_
  refine wpL_rg ?_
  refine pM (.int _ _) ?_
  refine pM (.lit _ _ _) ?_
  refine pLen tS56 ?_
  refine pBi ?_
  refine pE ?_
  refine gn ?_
  refine wpL_cd (b := decide (x4 < (aA0.length : Int))) (fun hb => ?_) (fun hb => ?_)
  · replace hk := ct hb hk
    refine wpL_sk ?_
    refine gn ?_
    refine wpL_sq ?_
    refine wpL_bl ?_
    refine wpL_rg ?_
    refine pM (.sl _ _ _) ?_
    refine pM (.int _ _) ?_
    refine pM (.lit _ _ _) ?_
    refine pM (.int _ _) ?_
    obtain ⟨c5, hc5, hk⟩ := bs hk
    refine pX hc5 tE56 tZ291 ?_
    refine pLp (.agg [_, _]) (rd2 (lm := 0) (off := 0) hc5 tA291 tZ291) ?_
    obtain ⟨v6, hv6, hk⟩ := bs hk
    refine pCall (fun _ => f257_run hv6) ?_
    obtain ⟨c7, hc7, hk⟩ := bs hk
    refine pXm hl3 hc7 tE64 tZ206 ?_
    refine pSm hO 0 hc7 tZ206 rfl v6 (.agg [_, _]) (fun G hO => ?_)
    refine pE ?_
    refine bn (gn ?_)
    refine wpL_rg ?_
    refine pM (.int _ _) ?_
    refine pBi ?_
    refine pA (.int _ _) ?_
    refine pE ?_
    refine gn ?_
    cases hk; exact ⟨_, rfl, _, _, (List.length_set.trans hl3), hO, St.hav _ ⟨rfl, rfl, rfl, trivial⟩⟩
  · replace hk := cf hb hk
    refine wpL_ex ?_
    refine ge (ge (be (gn ?_)))
    replace hk := lx hx1 hk
    refine wpL_sq ?_
    refine wpL_rg ?_
    refine pM (.sl _ _ _) ?_
    refine pA (.sl _ _ _) ?_
    refine pE ?_
    refine gn ?_
    refine wpL_rt ?_
    replace hk := Option.some.inj hk; subst hk; exact finThL hO (th_made (xs := x3) hl3 hlk 0) (resT (.sl _ _ _) resN)
/-- laws.toIntS -/
def f97_L1 (aA0 : List Int) : ((List Int) × Int) → Option (((List Int) × Int) ⊕ (List Int)) := fun s =>
  (bif decide (s.2 < (aA0.length : Int)) then ((getI aA0 s.2).bind fun c5 => ((getI s.1 s.2).bind fun c6 => some (.inl (s.1.set s.2.toNat c5, w64 (s.2 + (1:Int)))))) else ((some s.1).map Sum.inr))
def f97 (aA0 : List Int) : Option (List Int) :=
  ((makeB 8 (aA0.length : Int)).bind fun m1 => (loopO (f97_L1 aA0) (List.replicate m1 (0 : Int), (0:Int))))
theorem f97_run {aA0 : List Int} {r : (List Int)} {l1 : Nat} {H : Heap} {lk : Lk} (hk : f97 aA0 = some r) (hlk : 0 < lk.length := by simp) : ∃ v H1, runL Try.prog hh 97 [.lit l1 aA0.length ((flatL 0) aA0)] H lk = some (v, H1) ∧ FreshL H r v H1 := by
  refine run_startR Try.func97 rfl Try.ntmps97 Try.results97 rfl rfl ?_
  have hO := Owns.nil H
  unfold f97 at hk
  refine wpL_sq ?_
  refine wpL_rg ?_
  refine pA (.tl 0 []) ?_
  refine pE ?_
  refine gn ?_
  refine wpL_sq ?_
  refine wpL_rg ?_
  refine pM (.lit _ _ _) ?_
  refine pLen tS26 ?_
  obtain ⟨m1, hm1, hk⟩ := bs hk
  refine pMk hO hm1 (0 : Int) tE26 tZ3 tB3 t03 (fun b2 G hO => ?_)
  refine pA (.sl _ _ _) ?_
  refine pE ?_
  refine gn ?_
  refine wpL_sq ?_
  refine wpL_sq ?_
  refine wpL_rg ?_
  refine pA (.int _ _) ?_
  refine pE ?_
  refine gn ?_
  refine wpL_bl ?_
  refine wpL_loopO (F := f97_L1 aA0) (fun s S' => ∃ (J : Nat → V) (G : Heap), s.1.length = m1 ∧ Owns H G [.blk b2 (.cells 1 ((flatL 0) s.1))] ∧ S' = ⟨hav [(0, .lit l1 aA0.length ((flatL 0) aA0)), (3, .sl b2 0 m1), (4, .int .i64 s.2)] J, G⟩) hk ⟨_, _, List.length_replicate, hO, St.hav _ ⟨rfl, rfl, rfl, trivial⟩⟩ ?_
  rintro ⟨x3, x4⟩ _ y1 ⟨J, G, hl3, hO, rfl⟩ hk hx1
  refine wpL_sq ?_
  refine wpL_sq ?_
  refine wpL_rg ?_
  refine pM (.int _ _) ?_
  refine pM (.lit _ _ _) ?_
  refine pLen tS26 ?_
  refine pBi ?_
  refine pE ?_
  refine gn ?_
  refine wpL_cd (b := decide (x4 < (aA0.length : Int))) (fun hb => ?_) (fun hb => ?_)
  · replace hk := ct hb hk
    refine wpL_sk ?_
    refine gn ?_
    refine wpL_sq ?_
    refine wpL_bl ?_
    refine wpL_rg ?_
    refine pM (.sl _ _ _) ?_
    refine pM (.int _ _) ?_
    refine pM (.lit _ _ _) ?_
    refine pM (.int _ _) ?_
    obtain ⟨c5, hc5, hk⟩ := bs hk
    refine pX hc5 tE26 tZ3 ?_
    refine pLp (.int _ _) (rd1 (lm := 0) (off := 0) hc5 tA3) ?_
    obtain ⟨c6, hc6, hk⟩ := bs hk
    refine pXm hl3 hc6 tE26 tZ3 ?_
    refine pSm hO 0 hc6 tZ3 rfl c5 (.int _ _) (fun G hO => ?_)
    refine pE ?_
    refine bn (gn ?_)
    refine wpL_rg ?_
    refine pM (.int _ _) ?_
    refine pBi ?_
    refine pA (.int _ _) ?_
    refine pE ?_
    refine gn ?_
    cases hk; exact ⟨_, rfl, _, _, (List.length_set.trans hl3), hO, St.hav _ ⟨rfl, rfl, rfl, trivial⟩⟩
  · replace hk := cf hb hk
    refine wpL_ex ?_
    refine ge (ge (be (gn ?_)))
    replace hk := lx hx1 hk
    refine wpL_sq ?_
    refine wpL_rg ?_
    refine pM (.sl _ _ _) ?_
    refine pA (.sl _ _ _) ?_
    refine pE ?_
    refine gn ?_
    refine wpL_rt ?_
    replace hk := Option.some.inj hk; subst hk; exact finThL hO (th_made (xs := x3) hl3 hlk 0) (resT (.sl _ _ _) resN)
/-- laws.toPart -/
def f258 (aA0 : Part) : Option Part :=
  some aA0
theorem f258_run {aA0 : Part} {r : Part} {H : Heap} {lk : Lk} (hk : f258 aA0 = some r) (hlk : 0 < lk.length := by simp) : runL Try.prog hh 258 [.agg [.int .i64 aA0.Piece, .int .i64 aA0.From, .int .i64 aA0.To]] H lk = some (.agg [.int .i64 r.Piece, .int .i64 r.From, .int .i64 r.To], H) := by
  refine run_start Try.func258 rfl Try.ntmps258 Try.results258 rfl rfl fun hO => ?_
  unfold f258 at hk
  refine wpL_sq ?_
  refine wpL_rg ?_
  refine pBox (cs := [_, _, _]) hO tZ293 (fun b1 G hO => ?_)
  refine pNew hO tZ271 t0271 (fun b2 G hO => ?_)
  refine pE ?_
  refine gn ?_
  refine wpL_sq ?_
  refine wpL_rg ?_
  refine pNew hO tZ271 t0271 (fun b3 G hO => ?_)
  refine pE ?_
  refine gn ?_
  refine wpL_sq ?_
  refine wpL_rg ?_
  refine pF tF293_0 ?_
  refine pLo hO 2 (.int _ _) tA3 ?_
  refine pF tF271_0 ?_
  refine pSt (xs := [_]) hO 0 tZ3 rfl (fun G hO => ?_)
  refine pE ?_
  refine gn ?_
  refine wpL_sq ?_
  refine wpL_rg ?_
  refine pF tF293_1 ?_
  refine pLo hO 2 (.int _ _) tA3 ?_
  refine pF tF271_1 ?_
  refine pSt (xs := [_]) hO 0 tZ3 rfl (fun G hO => ?_)
  refine pE ?_
  refine gn ?_
  refine wpL_sq ?_
  refine wpL_rg ?_
  refine pF tF293_2 ?_
  refine pLo hO 2 (.int _ _) tA3 ?_
  refine pF tF271_2 ?_
  refine pSt (xs := [_]) hO 0 tZ3 rfl (fun G hO => ?_)
  refine pE ?_
  refine gn ?_
  refine wpL_sq ?_
  refine wpL_rg ?_
  refine pLs hO 0 [_, _, _] tA271 tZ271 ?_
  refine pSt (xs := [_, _, _]) hO 1 tZ271 rfl (fun G hO => ?_)
  refine pE ?_
  refine gn ?_
  refine wpL_rt ?_
  replace hk := Option.some.inj hk; subst hk; exact finZ hO (fz_agg (n := 2) (fz_c (fz_int _ _) (fz_c (fz_int _ _) (fz_c (fz_int _ _) (fz_n))))) (resS hO 1 [_, _, _] tA271 tZ271 resN)
/-- laws.toPartS -/
def f158_L1 (aA0 : List Part) : ((List Part) × Int) → Option (((List Part) × Int) ⊕ (List Part)) := fun s =>
  (bif decide (s.2 < (aA0.length : Int)) then ((getI aA0 s.2).bind fun c5 => ((f258 c5).bind fun v6 => ((getI s.1 s.2).bind fun c7 => some (.inl (s.1.set s.2.toNat v6, w64 (s.2 + (1:Int))))))) else ((some s.1).map Sum.inr))
def f158 (aA0 : List Part) : Option (List Part) :=
  ((makeB 24 (aA0.length : Int)).bind fun m1 => (loopO (f158_L1 aA0) (List.replicate m1 (⟨0, 0, 0⟩ : Part), (0:Int))))
theorem f158_run {aA0 : List Part} {r : (List Part)} {l1 : Nat} {H : Heap} {lk : Lk} (hk : f158 aA0 = some r) (hlk : 0 < lk.length := by simp) : ∃ v H1, runL Try.prog hh 158 [.lit l1 aA0.length ((flatL 0) aA0)] H lk = some (v, H1) ∧ FreshL H r v H1 := by
  refine run_startR Try.func158 rfl Try.ntmps158 Try.results158 rfl rfl ?_
  have hO := Owns.nil H
  unfold f158 at hk
  refine wpL_sq ?_
  refine wpL_rg ?_
  refine pA (.tl 0 []) ?_
  refine pE ?_
  refine gn ?_
  refine wpL_sq ?_
  refine wpL_rg ?_
  refine pM (.lit _ _ _) ?_
  refine pLen tS57 ?_
  obtain ⟨m1, hm1, hk⟩ := bs hk
  refine pMk hO hm1 (⟨0, 0, 0⟩ : Part) tE65 tZ271 tB271 t0271 (fun b2 G hO => ?_)
  refine pA (.sl _ _ _) ?_
  refine pE ?_
  refine gn ?_
  refine wpL_sq ?_
  refine wpL_sq ?_
  refine wpL_rg ?_
  refine pA (.int _ _) ?_
  refine pE ?_
  refine gn ?_
  refine wpL_bl ?_
  refine wpL_loopO (F := f158_L1 aA0) (fun s S' => ∃ (J : Nat → V) (G : Heap), s.1.length = m1 ∧ Owns H G [.blk b2 (.cells 3 ((flatL 0) s.1))] ∧ S' = ⟨hav [(0, .lit l1 aA0.length ((flatL 0) aA0)), (3, .sl b2 0 m1), (4, .int .i64 s.2)] J, G⟩) hk ⟨_, _, List.length_replicate, hO, St.hav _ ⟨rfl, rfl, rfl, trivial⟩⟩ ?_
  rintro ⟨x3, x4⟩ _ y1 ⟨J, G, hl3, hO, rfl⟩ hk hx1
  refine wpL_sq ?_
  refine wpL_sq ?_
  refine wpL_rg ?_
  refine pM (.int _ _) ?_
  refine pM (.lit _ _ _) ?_
  refine pLen tS57 ?_
  refine pBi ?_
  refine pE ?_
  refine gn ?_
  refine wpL_cd (b := decide (x4 < (aA0.length : Int))) (fun hb => ?_) (fun hb => ?_)
  · replace hk := ct hb hk
    refine wpL_sk ?_
    refine gn ?_
    refine wpL_sq ?_
    refine wpL_bl ?_
    refine wpL_rg ?_
    refine pM (.sl _ _ _) ?_
    refine pM (.int _ _) ?_
    refine pM (.lit _ _ _) ?_
    refine pM (.int _ _) ?_
    obtain ⟨c5, hc5, hk⟩ := bs hk
    refine pX hc5 tE57 tZ293 ?_
    refine pLp (.agg [_, _, _]) (rd2 (lm := 0) (off := 0) hc5 tA293 tZ293) ?_
    obtain ⟨v6, hv6, hk⟩ := bs hk
    refine pCall (fun _ => f258_run hv6) ?_
    obtain ⟨c7, hc7, hk⟩ := bs hk
    refine pXm hl3 hc7 tE65 tZ271 ?_
    refine pSm hO 0 hc7 tZ271 rfl v6 (.agg [_, _, _]) (fun G hO => ?_)
    refine pE ?_
    refine bn (gn ?_)
    refine wpL_rg ?_
    refine pM (.int _ _) ?_
    refine pBi ?_
    refine pA (.int _ _) ?_
    refine pE ?_
    refine gn ?_
    cases hk; exact ⟨_, rfl, _, _, (List.length_set.trans hl3), hO, St.hav _ ⟨rfl, rfl, rfl, trivial⟩⟩
  · replace hk := cf hb hk
    refine wpL_ex ?_
    refine ge (ge (be (gn ?_)))
    replace hk := lx hx1 hk
    refine wpL_sq ?_
    refine wpL_rg ?_
    refine pM (.sl _ _ _) ?_
    refine pA (.sl _ _ _) ?_
    refine pE ?_
    refine gn ?_
    refine wpL_rt ?_
    replace hk := Option.some.inj hk; subst hk; exact finThL hO (th_made (xs := x3) hl3 hlk 0) (resT (.sl _ _ _) resN)
/-- laws.toFlank -/
def f259 (aA0 : Flank) : Option Flank :=
  some aA0
theorem f259_run {aA0 : Flank} {r : Flank} {H : Heap} {lk : Lk} (hk : f259 aA0 = some r) (hlk : 0 < lk.length := by simp) : runL Try.prog hh 259 [.agg [.int .i64 aA0.At, .int .i64 aA0.Kind, .int .i64 aA0.Of, .int .i64 aA0.Lie]] H lk = some (.agg [.int .i64 r.At, .int .i64 r.Kind, .int .i64 r.Of, .int .i64 r.Lie], H) := by
  refine run_start Try.func259 rfl Try.ntmps259 Try.results259 rfl rfl fun hO => ?_
  unfold f259 at hk
  refine wpL_sq ?_
  refine wpL_rg ?_
  refine pBox (cs := [_, _, _, _]) hO tZ295 (fun b1 G hO => ?_)
  refine pNew hO tZ287 t0287 (fun b2 G hO => ?_)
  refine pE ?_
  refine gn ?_
  refine wpL_sq ?_
  refine wpL_rg ?_
  refine pNew hO tZ287 t0287 (fun b3 G hO => ?_)
  refine pE ?_
  refine gn ?_
  refine wpL_sq ?_
  refine wpL_rg ?_
  refine pF tF295_0 ?_
  refine pLo hO 2 (.int _ _) tA3 ?_
  refine pF tF287_0 ?_
  refine pSt (xs := [_]) hO 0 tZ3 rfl (fun G hO => ?_)
  refine pE ?_
  refine gn ?_
  refine wpL_sq ?_
  refine wpL_rg ?_
  refine pF tF295_1 ?_
  refine pLo hO 2 (.int _ _) tA3 ?_
  refine pF tF287_1 ?_
  refine pSt (xs := [_]) hO 0 tZ3 rfl (fun G hO => ?_)
  refine pE ?_
  refine gn ?_
  refine wpL_sq ?_
  refine wpL_rg ?_
  refine pF tF295_2 ?_
  refine pLo hO 2 (.int _ _) tA3 ?_
  refine pF tF287_2 ?_
  refine pSt (xs := [_]) hO 0 tZ3 rfl (fun G hO => ?_)
  refine pE ?_
  refine gn ?_
  refine wpL_sq ?_
  refine wpL_rg ?_
  refine pF tF295_3 ?_
  refine pLo hO 2 (.int _ _) tA3 ?_
  refine pF tF287_3 ?_
  refine pSt (xs := [_]) hO 0 tZ3 rfl (fun G hO => ?_)
  refine pE ?_
  refine gn ?_
  refine wpL_sq ?_
  refine wpL_rg ?_
  refine pLs hO 0 [_, _, _, _] tA287 tZ287 ?_
  refine pSt (xs := [_, _, _, _]) hO 1 tZ287 rfl (fun G hO => ?_)
  refine pE ?_
  refine gn ?_
  refine wpL_rt ?_
  replace hk := Option.some.inj hk; subst hk; exact finZ hO (fz_agg (n := 2) (fz_c (fz_int _ _) (fz_c (fz_int _ _) (fz_c (fz_int _ _) (fz_c (fz_int _ _) (fz_n)))))) (resS hO 1 [_, _, _, _] tA287 tZ287 resN)
/-- laws.toFlankS -/
def f159_L1 (aA0 : List Flank) : ((List Flank) × Int) → Option (((List Flank) × Int) ⊕ (List Flank)) := fun s =>
  (bif decide (s.2 < (aA0.length : Int)) then ((getI aA0 s.2).bind fun c5 => ((f259 c5).bind fun v6 => ((getI s.1 s.2).bind fun c7 => some (.inl (s.1.set s.2.toNat v6, w64 (s.2 + (1:Int))))))) else ((some s.1).map Sum.inr))
def f159 (aA0 : List Flank) : Option (List Flank) :=
  ((makeB 32 (aA0.length : Int)).bind fun m1 => (loopO (f159_L1 aA0) (List.replicate m1 (⟨0, 0, 0, 0⟩ : Flank), (0:Int))))
theorem f159_run {aA0 : List Flank} {r : (List Flank)} {l1 : Nat} {H : Heap} {lk : Lk} (hk : f159 aA0 = some r) (hlk : 0 < lk.length := by simp) : ∃ v H1, runL Try.prog hh 159 [.lit l1 aA0.length ((flatL 0) aA0)] H lk = some (v, H1) ∧ FreshL H r v H1 := by
  refine run_startR Try.func159 rfl Try.ntmps159 Try.results159 rfl rfl ?_
  have hO := Owns.nil H
  unfold f159 at hk
  refine wpL_sq ?_
  refine wpL_rg ?_
  refine pA (.tl 0 []) ?_
  refine pE ?_
  refine gn ?_
  refine wpL_sq ?_
  refine wpL_rg ?_
  refine pM (.lit _ _ _) ?_
  refine pLen tS58 ?_
  obtain ⟨m1, hm1, hk⟩ := bs hk
  refine pMk hO hm1 (⟨0, 0, 0, 0⟩ : Flank) tE66 tZ287 tB287 t0287 (fun b2 G hO => ?_)
  refine pA (.sl _ _ _) ?_
  refine pE ?_
  refine gn ?_
  refine wpL_sq ?_
  refine wpL_sq ?_
  refine wpL_rg ?_
  refine pA (.int _ _) ?_
  refine pE ?_
  refine gn ?_
  refine wpL_bl ?_
  refine wpL_loopO (F := f159_L1 aA0) (fun s S' => ∃ (J : Nat → V) (G : Heap), s.1.length = m1 ∧ Owns H G [.blk b2 (.cells 4 ((flatL 0) s.1))] ∧ S' = ⟨hav [(0, .lit l1 aA0.length ((flatL 0) aA0)), (3, .sl b2 0 m1), (4, .int .i64 s.2)] J, G⟩) hk ⟨_, _, List.length_replicate, hO, St.hav _ ⟨rfl, rfl, rfl, trivial⟩⟩ ?_
  rintro ⟨x3, x4⟩ _ y1 ⟨J, G, hl3, hO, rfl⟩ hk hx1
  refine wpL_sq ?_
  refine wpL_sq ?_
  refine wpL_rg ?_
  refine pM (.int _ _) ?_
  refine pM (.lit _ _ _) ?_
  refine pLen tS58 ?_
  refine pBi ?_
  refine pE ?_
  refine gn ?_
  refine wpL_cd (b := decide (x4 < (aA0.length : Int))) (fun hb => ?_) (fun hb => ?_)
  · replace hk := ct hb hk
    refine wpL_sk ?_
    refine gn ?_
    refine wpL_sq ?_
    refine wpL_bl ?_
    refine wpL_rg ?_
    refine pM (.sl _ _ _) ?_
    refine pM (.int _ _) ?_
    refine pM (.lit _ _ _) ?_
    refine pM (.int _ _) ?_
    obtain ⟨c5, hc5, hk⟩ := bs hk
    refine pX hc5 tE58 tZ295 ?_
    refine pLp (.agg [_, _, _, _]) (rd2 (lm := 0) (off := 0) hc5 tA295 tZ295) ?_
    obtain ⟨v6, hv6, hk⟩ := bs hk
    refine pCall (fun _ => f259_run hv6) ?_
    obtain ⟨c7, hc7, hk⟩ := bs hk
    refine pXm hl3 hc7 tE66 tZ287 ?_
    refine pSm hO 0 hc7 tZ287 rfl v6 (.agg [_, _, _, _]) (fun G hO => ?_)
    refine pE ?_
    refine bn (gn ?_)
    refine wpL_rg ?_
    refine pM (.int _ _) ?_
    refine pBi ?_
    refine pA (.int _ _) ?_
    refine pE ?_
    refine gn ?_
    cases hk; exact ⟨_, rfl, _, _, (List.length_set.trans hl3), hO, St.hav _ ⟨rfl, rfl, rfl, trivial⟩⟩
  · replace hk := cf hb hk
    refine wpL_ex ?_
    refine ge (ge (be (gn ?_)))
    replace hk := lx hx1 hk
    refine wpL_sq ?_
    refine wpL_rg ?_
    refine pM (.sl _ _ _) ?_
    refine pA (.sl _ _ _) ?_
    refine pE ?_
    refine gn ?_
    refine wpL_rt ?_
    replace hk := Option.some.inj hk; subst hk; exact finThL hO (th_made (xs := x3) hl3 hlk 0) (resT (.sl _ _ _) resN)
/-- laws.toRoute -/
def f48 (aA0 : Route) : Option Route :=
  ((f156 aA0.Steps).bind fun v4 => ((f157 aA0.Lies).bind fun v7 => ((f97 aA0.Crosses).bind fun v10 => ((f158 aA0.Parts).bind fun v13 => ((f158 aA0.Over).bind fun v16 => ((f159 aA0.Flanks).bind fun v19 => some ({ From := aA0.From, To := aA0.To, Steps := v4, Lies := v7, Crosses := v10, Parts := v13, Over := v16, Flanks := v19 } : Route)))))))
theorem f48_run {aA0 : Route} {r : Route} {l1 l2 l3 l4 l5 l6 : Nat} {H : Heap} {lk : Lk} (hk : f48 aA0 = some r) (hlk : 0 < lk.length := by simp) : ∃ v H1, runL Try.prog hh 48 [.agg [.int .i64 aA0.From, .int .i64 aA0.To, .lit l1 aA0.Steps.length ((flatL 0) aA0.Steps), .lit l2 aA0.Lies.length ((flatL 0) aA0.Lies), .lit l3 aA0.Crosses.length ((flatL 0) aA0.Crosses), .lit l4 aA0.Parts.length ((flatL 0) aA0.Parts), .lit l5 aA0.Over.length ((flatL 0) aA0.Over), .lit l6 aA0.Flanks.length ((flatL 0) aA0.Flanks)]] H lk = some (v, H1) ∧ FreshS H r v H1 := by
  refine run_startR Try.func48 rfl Try.ntmps48 Try.results48 rfl rfl ?_
  have hO := Owns.nil H
  unfold f48 at hk
  refine wpL_sq ?_
  refine wpL_rg ?_
  refine pBox (cs := [_, _, _, _, _, _, _, _]) hO tZ60 (fun b1 G hO => ?_)
  refine pNew hO tZ68 t068 (fun b2 G hO => ?_)
  refine pE ?_
  refine gn ?_
  refine wpL_sq ?_
  refine wpL_rg ?_
  refine pNew hO tZ68 t068 (fun b3 G hO => ?_)
  refine pE ?_
  refine gn ?_
  refine wpL_sq ?_
  refine wpL_rg ?_
  refine pF tF60_0 ?_
  refine pLo hO 2 (.int _ _) tA3 ?_
  refine pF tF68_0 ?_
  refine pSn (xs := [_]) [_, _, _, _, _, _, _, _] hO 0 tZ3 rfl (fun G hO => ?_)
  refine pE ?_
  refine gn ?_
  refine wpL_sq ?_
  refine wpL_rg ?_
  refine pF tF60_1 ?_
  refine pLo hO 2 (.int _ _) tA3 ?_
  refine pF tF68_1 ?_
  refine pSn (xs := [_]) [_, _, _, _, _, _, _, _] hO 0 tZ3 rfl (fun G hO => ?_)
  refine pE ?_
  refine gn ?_
  refine wpL_sq ?_
  refine wpL_rg ?_
  refine pF tF60_2 ?_
  refine pLo hO 2 (.lit _ _ _) tA55 ?_
  obtain ⟨v4, hv4, hk⟩ := bs hk
  refine pCN hO (fun _ => f156_run hv4) (fun u5 F5 G hO => ?_)
  refine pF tF68_2 ?_
  have hc6 := tl_cells hO (j := 0) rfl
  refine pSn (xs := [_]) [_, _, _, _, _, _, _, _] hO 1 tZ63 rfl (fun G hO => ?_) (h3 := hc6.1) (h6 := one_cell hc6.2)
  refine pE ?_
  refine gn ?_
  refine wpL_sq ?_
  refine wpL_rg ?_
  refine pF tF60_3 ?_
  refine pLo hO 3 (.lit _ _ _) tA56 ?_
  obtain ⟨v7, hv7, hk⟩ := bs hk
  refine pCN hO (fun _ => f157_run hv7) (fun u8 F8 G hO => ?_)
  refine pF tF68_3 ?_
  have hc9 := tl_cells hO (j := 0) rfl
  refine pSn (xs := [_]) [_, _, _, _, _, _, _, _] hO 2 tZ64 rfl (fun G hO => ?_) (h3 := hc9.1) (h6 := one_cell hc9.2)
  refine pE ?_
  refine gn ?_
  refine wpL_sq ?_
  refine wpL_rg ?_
  refine pF tF60_4 ?_
  refine pLo hO 4 (.lit _ _ _) tA26 ?_
  obtain ⟨v10, hv10, hk⟩ := bs hk
  refine pCN hO (fun _ => f97_run hv10) (fun u11 F11 G hO => ?_)
  refine pF tF68_4 ?_
  have hc12 := tl_cells hO (j := 0) rfl
  refine pSn (xs := [_]) [_, _, _, _, _, _, _, _] hO 3 tZ26 rfl (fun G hO => ?_) (h3 := hc12.1) (h6 := one_cell hc12.2)
  refine pE ?_
  refine gn ?_
  refine wpL_sq ?_
  refine wpL_rg ?_
  refine pF tF60_5 ?_
  refine pLo hO 5 (.lit _ _ _) tA57 ?_
  obtain ⟨v13, hv13, hk⟩ := bs hk
  refine pCN hO (fun _ => f158_run hv13) (fun u14 F14 G hO => ?_)
  refine pF tF68_5 ?_
  have hc15 := tl_cells hO (j := 0) rfl
  refine pSn (xs := [_]) [_, _, _, _, _, _, _, _] hO 4 tZ65 rfl (fun G hO => ?_) (h3 := hc15.1) (h6 := one_cell hc15.2)
  refine pE ?_
  refine gn ?_
  refine wpL_sq ?_
  refine wpL_rg ?_
  refine pF tF60_6 ?_
  refine pLo hO 6 (.lit _ _ _) tA57 ?_
  obtain ⟨v16, hv16, hk⟩ := bs hk
  refine pCN hO (fun _ => f158_run hv16) (fun u17 F17 G hO => ?_)
  refine pF tF68_6 ?_
  have hc18 := tl_cells hO (j := 0) rfl
  refine pSn (xs := [_]) [_, _, _, _, _, _, _, _] hO 5 tZ65 rfl (fun G hO => ?_) (h3 := hc18.1) (h6 := one_cell hc18.2)
  refine pE ?_
  refine gn ?_
  refine wpL_sq ?_
  refine wpL_rg ?_
  refine pF tF60_7 ?_
  refine pLo hO 7 (.lit _ _ _) tA58 ?_
  obtain ⟨v19, hv19, hk⟩ := bs hk
  refine pCN hO (fun _ => f159_run hv19) (fun u20 F20 G hO => ?_)
  refine pF tF68_7 ?_
  have hc21 := tl_cells hO (j := 0) rfl
  refine pSn (xs := [_]) [_, _, _, _, _, _, _, _] hO 6 tZ66 rfl (fun G hO => ?_) (h3 := hc21.1) (h6 := one_cell hc21.2)
  refine pE ?_
  refine gn ?_
  refine wpL_sq ?_
  refine wpL_rg ?_
  refine pLs hO 6 [_, _, _, _, _, _, _, _] tA68 tZ68 ?_
  have hc22 := tl_cells hO (j := 5) rfl
  have hc23 := tl_cells hO (j := 4) rfl
  have hc24 := tl_cells hO (j := 3) rfl
  have hc25 := tl_cells hO (j := 2) rfl
  have hc26 := tl_cells hO (j := 1) rfl
  have hc27 := tl_cells hO (j := 0) rfl
  refine pSn (xs := [_, _, _, _, _, _, _, _]) [_, _, _, _, _, _, _, _] hO 7 tZ68 rfl (fun G hO => ?_) (h6 := (all_c rfl (all_c rfl (all_c hc22.2 (all_c hc23.2 (all_c hc24.2 (all_c hc25.2 (all_c hc26.2 (all_c hc27.2 all_n)))))))))
  refine pE ?_
  refine gn ?_
  refine wpL_rt ?_
  replace hk := Option.some.inj hk; subst hk; exact finThS hO (th_Route (x := ({ From := aA0.From, To := aA0.To, Steps := v4, Lies := v7, Crosses := v10, Parts := v13, Over := v16, Flanks := v19 } : Route)) (th_pair (c1 := [_]) (th_int aA0.From) (th_pair (c1 := [_]) (th_int aA0.To) (th_pair (c1 := [_]) (th_tree (x := v4) 5) (th_pair (c1 := [_]) (th_tree (x := v7) 4) (th_pair (c1 := [_]) (th_tree (x := v10) 3) (th_pair (c1 := [_]) (th_tree (x := v13) 2) (th_pair (c1 := [_]) (th_tree (x := v16) 1) (th_tree (x := v19) 0))))))))) (resS hO 7 [_, _, _, _, _, _, _, _] tA68 tZ68 resN)
/-- laws.toRouteS -/
def f62_L1 (aA0 : List Route) : ((List Route) × Int) → Option (((List Route) × Int) ⊕ (List Route)) := fun s =>
  (bif decide (s.2 < (aA0.length : Int)) then ((getI aA0 s.2).bind fun c7 => ((f48 c7).bind fun v8 => ((getI s.1 s.2).bind fun c10 => some (.inl (s.1.set s.2.toNat v8, w64 (s.2 + (1:Int))))))) else ((some s.1).map Sum.inr))
def f62 (aA0 : List Route) : Option (List Route) :=
  ((makeB 160 (aA0.length : Int)).bind fun m1 => (loopO (f62_L1 aA0) (List.replicate m1 (⟨0, 0, [], [], [], [], [], []⟩ : Route), (0:Int))))
theorem f62_run {aA0 : List Route} {r : (List Route)} {l1 m2 : Nat} {H : Heap} {lk : Lk} (hk : f62 aA0 = some r) (hlk : 0 < lk.length := by simp) : ∃ v H1, runL Try.prog hh 62 [.lit l1 aA0.length (flatL m2 aA0)] H lk = some (v, H1) ∧ FreshL H r v H1 := by
  refine run_startR Try.func62 rfl Try.ntmps62 Try.results62 rfl rfl ?_
  have hO := Owns.nil H
  unfold f62 at hk
  refine wpL_sq ?_
  refine wpL_rg ?_
  refine pA (.tl 0 []) ?_
  refine pE ?_
  refine gn ?_
  refine wpL_sq ?_
  refine wpL_rg ?_
  refine pM (.lit _ _ _) ?_
  refine pLen tS92 ?_
  obtain ⟨m1, hm1, hk⟩ := bs hk
  refine pMkT hO hm1 (⟨0, 0, [], [], [], [], [], []⟩ : Route) tE96 tZ68 tB68 t068 (fun G => (show GoM.tr G (⟨0, 0, [], [], [], [], [], []⟩ : Route) [.int .i64 0, .int .i64 0, (.tl 0 []), (.tl 0 []), (.tl 0 []), (.tl 0 []), (.tl 0 []), (.tl 0 [])] [] from ⟨[_], _, [], [], rfl, rfl, ⟨rfl, rfl⟩, ⟨[_], _, [], [], rfl, rfl, ⟨rfl, rfl⟩, ⟨[_], _, [], [], rfl, rfl, .inl ⟨rfl, rfl, rfl⟩, ⟨[_], _, [], [], rfl, rfl, .inl ⟨rfl, rfl, rfl⟩, ⟨[_], _, [], [], rfl, rfl, .inl ⟨rfl, rfl, rfl⟩, ⟨[_], _, [], [], rfl, rfl, .inl ⟨rfl, rfl, rfl⟩, ⟨[_], _, [], [], rfl, rfl, .inl ⟨rfl, rfl, rfl⟩, .inl ⟨rfl, rfl, rfl⟩⟩⟩⟩⟩⟩⟩⟩)) (fun b2 G hO => ?_)
  refine pA (.sl b2 0 m1) ?_
  refine pE ?_
  refine gn ?_
  refine wpL_sq ?_
  refine wpL_sq ?_
  refine wpL_rg ?_
  refine pA (.int _ _) ?_
  refine pE ?_
  refine gn ?_
  refine wpL_bl ?_
  refine wpL_loopO (F := f62_L1 aA0) (fun s S' => ∃ (F5 : List Nat) (J : Nat → V) (G : Heap), Owns H G [Tree [] F5 s.1 [.sl b2 0 m1]] ∧ S' = ⟨hav [(0, .lit l1 aA0.length (flatL m2 aA0)), (3, (.sl b2 0 m1)), (4, .int .i64 s.2)] J, G⟩) hk ⟨[b2], _, _, hO, St.hav _ ⟨rfl, rfl, rfl, trivial⟩⟩ ?_
  rintro ⟨x4, x6⟩ _ y1 ⟨F5, J, G, hO, rfl⟩ hk hx1
  refine wpL_sq ?_
  refine wpL_sq ?_
  refine wpL_rg ?_
  refine pM (.int _ _) ?_
  refine pM (.lit _ _ _) ?_
  refine pLen tS92 ?_
  refine pBi ?_
  refine pE ?_
  refine gn ?_
  refine wpL_cd (b := decide (x6 < (aA0.length : Int))) (fun hb => ?_) (fun hb => ?_)
  · replace hk := ct hb hk
    refine wpL_sk ?_
    refine gn ?_
    refine wpL_sq ?_
    refine wpL_bl ?_
    refine wpL_rg ?_
    refine pM (.sl b2 0 m1) ?_
    refine pM (.int _ _) ?_
    refine pM (.lit _ _ _) ?_
    refine pM (.int _ _) ?_
    obtain ⟨c7, hc7, hk⟩ := bs hk
    refine pX hc7 tE92 tZ60 ?_
    refine pLp (.agg [_, _, _, _, _, _, _, _]) (rd2 (lm := m2) (off := 0) hc7 tA60 tZ60) ?_
    obtain ⟨v8, hv8, hk⟩ := bs hk
    refine pCNs hO (fun _ => f48_run hv8) (fun u9 F9 G hO => ?_)
    obtain ⟨c10, hc10, hk⟩ := bs hk
    refine pXT hO 1 hc10 tE96 tZ68 (fun b11 hb11 => ?_)
    refine pSTT hO 0 hb11 hc10 tZ68 rfl (fun G hO => ?_)
    refine pE ?_
    refine bn (gn ?_)
    refine wpL_rg ?_
    refine pM (.int _ _) ?_
    refine pBi ?_
    refine pA (.int _ _) ?_
    refine pE ?_
    refine gn ?_
    cases hk; exact ⟨_, rfl, (F5 ++ F9), _, _, hO, St.hav _ ⟨rfl, rfl, rfl, trivial⟩⟩
  · replace hk := cf hb hk
    refine wpL_ex ?_
    refine ge (ge (be (gn ?_)))
    replace hk := lx hx1 hk
    refine wpL_sq ?_
    refine wpL_rg ?_
    refine pM (.sl b2 0 m1) ?_
    refine pA (.sl b2 0 m1) ?_
    refine pE ?_
    refine gn ?_
    refine wpL_rt ?_
    replace hk := Option.some.inj hk; subst hk; exact finThL hO (th_tree (x := x4) 0) (resT (.sl b2 0 m1) resN)
/-- spec.l13touch -/
def f154_L2 (aB1 : List Part) (x1 : Int) (c2 : Part) : Int → Option (Int ⊕ (Int ⊕ Bool)) := fun s =>
  (bif decide (s < (aB1.length : Int)) then ((getI aB1 s).bind fun c5 => (bif (((c2.Piece == c5.Piece) && decide (c2.From ≤ c5.To)) && decide (c5.From ≤ c2.To)) then (((some true).map Sum.inr).map Sum.inr) else some (.inl (w64 (s + (1:Int)))))) else ((some (.inl (w64 (x1 + (1:Int))))).map Sum.inr))
def f154_L1 (aA0 : List Part) (aB1 : List Part) : Int → Option (Int ⊕ Bool) := fun s =>
  (bif decide (s < (aA0.length : Int)) then ((getI aA0 s).bind fun c2 => (loopO (f154_L2 aB1 s c2) ((0:Int)))) else ((some false).map Sum.inr))
def f154 (aA0 : List Part) (aB1 : List Part) : Option Bool :=
  (loopO (f154_L1 aA0 aB1) ((0:Int)))
theorem f154_run {aA0 : List Part} {aB1 : List Part} {r : Bool} {l1 l2 : Nat} {H : Heap} {lk : Lk} (hk : f154 aA0 aB1 = some r) (hlk : 0 < lk.length := by simp) : runL Try.prog hh 154 [.lit l1 aA0.length ((flatL 0) aA0), .lit l2 aB1.length ((flatL 0) aB1)] H lk = some (.bool r, H) := by
  refine run_start Try.func154 rfl Try.ntmps154 Try.results154 rfl rfl fun hO => ?_
  unfold f154 at hk
  refine wpL_sq ?_
  refine wpL_rg ?_
  refine pA (.bool _) ?_
  refine pE ?_
  refine gn ?_
  refine wpL_sq ?_
  refine wpL_sq ?_
  refine wpL_rg ?_
  refine pM (.lit _ _ _) ?_
  refine pLen tS65 ?_
  refine pM (.int _ _) ?_
  refine pE ?_
  refine gn ?_
  refine wpL_bl ?_
  refine wpL_loopO (F := f154_L1 aA0 aB1) (fun s S' => ∃ (J : Nat → V) (G : Heap), Owns H G [] ∧ S' = ⟨hav [(1, .lit l2 aB1.length ((flatL 0) aB1)), (9, .lit l1 aA0.length ((flatL 0) aA0)), (10, .int .i64 (aA0.length : Int)), (11, .int .i64 s)] J, G⟩) hk ⟨_, _, hO, St.hav _ ⟨rfl, rfl, rfl, rfl, trivial⟩⟩ ?_
  rintro x1 _ y1 ⟨J, G, hO, rfl⟩ hk hx1
  refine wpL_sq ?_
  refine wpL_rg ?_
  refine pBi ?_
  refine pE ?_
  refine gn ?_
  refine wpL_sq ?_
  refine wpL_cd (b := decide (x1 < (aA0.length : Int))) (fun hb => ?_) (fun hb => ?_)
  · replace hk := ct hb hk
    refine wpL_sk ?_
    refine gn ?_
    refine wpL_sq ?_
    refine wpL_bl ?_
    refine wpL_sq ?_
    refine wpL_rg ?_
    obtain ⟨c2, hc2, hk⟩ := bs hk
    refine pX hc2 tE65 tZ271 ?_
    refine pLp (.agg [_, _, _]) (rd2 (lm := 0) (off := 0) hc2 tA271 tZ271) ?_
    refine pNew hO tZ271 t0271 (fun b3 G hO => ?_)
    refine pSt (xs := [_, _, _]) hO 0 tZ271 rfl (fun G hO => ?_)
    refine pE ?_
    refine gn ?_
    refine wpL_sq ?_
    refine wpL_rg ?_
    refine pM (.lit _ _ _) ?_
    refine pLen tS65 ?_
    refine pM (.int _ _) ?_
    refine pE ?_
    refine gn ?_
    refine wpL_bl ?_
    refine wpL_loopO (F := f154_L2 aB1 x1 c2) (fun s S' => ∃ (J : Nat → V) (G : Heap), Owns H G [.blk b3 (.cells 3 [.int .i64 c2.Piece, .int .i64 c2.From, .int .i64 c2.To])] ∧ S' = ⟨hav [(1, .lit l2 aB1.length ((flatL 0) aB1)), (6, .ptr b3 0), (9, .lit l1 aA0.length ((flatL 0) aA0)), (10, .int .i64 (aA0.length : Int)), (11, .int .i64 x1), (15, .lit l2 aB1.length ((flatL 0) aB1)), (16, .int .i64 (aB1.length : Int)), (17, .int .i64 s)] J, G⟩) hk ⟨_, _, hO, St.hav _ ⟨rfl, rfl, rfl, rfl, rfl, rfl, rfl, rfl, trivial⟩⟩ ?_
    rintro x4 _ y2 ⟨J, G, hO, rfl⟩ hk hx2
    refine wpL_sq ?_
    refine wpL_rg ?_
    refine pBi ?_
    refine pE ?_
    refine gn ?_
    refine wpL_sq ?_
    refine wpL_cd (b := decide (x4 < (aB1.length : Int))) (fun hb => ?_) (fun hb => ?_)
    · replace hk := ct hb hk
      refine wpL_sk ?_
      refine gn ?_
      refine wpL_sq ?_
      refine wpL_bl ?_
      refine wpL_sq ?_
      refine wpL_rg ?_
      obtain ⟨c5, hc5, hk⟩ := bs hk
      refine pX hc5 tE65 tZ271 ?_
      refine pLp (.agg [_, _, _]) (rd2 (lm := 0) (off := 0) hc5 tA271 tZ271) ?_
      refine pNew hO tZ271 t0271 (fun b6 G hO => ?_)
      refine pSt (xs := [_, _, _]) hO 0 tZ271 rfl (fun G hO => ?_)
      refine pE ?_
      refine gn ?_
      refine wpL_sq ?_
      refine wpL_rg ?_
      refine pF tF271_0 ?_
      refine pLo hO 1 (.int _ _) tA3 ?_
      refine pF tF271_0 ?_
      refine pLo hO 0 (.int _ _) tA3 ?_
      refine pBi ?_
      refine pM (.bool _) ?_
      refine wpR_mid (l1 := [_, _, _, _, _, _]) (fun S' => ∃ J, S' = ⟨hav [(1, .lit l2 aB1.length ((flatL 0) aB1)), (6, .ptr b3 0), (8, .ptr b6 0), (9, .lit l1 aA0.length ((flatL 0) aA0)), (10, .int .i64 (aA0.length : Int)), (11, .int .i64 x1), (15, .lit l2 aB1.length ((flatL 0) aB1)), (16, .int .i64 (aB1.length : Int)), (17, .int .i64 x4), (32, .bool ((c2.Piece == c5.Piece) && decide (c2.From ≤ c5.To)))] J, G⟩) ?_ ?_
      · refine bc (b := (c2.Piece == c5.Piece)) (fun hg1 => ?_) (fun hg1 => ?_)
        · refine pGy hg1 ?_
          refine pF tF271_1 ?_
          refine pGy hg1 ?_
          refine pLo hO 1 (.int _ _) tA3 ?_
          refine pGy hg1 ?_
          refine pF tF271_2 ?_
          refine pGy hg1 ?_
          refine pLo hO 0 (.int _ _) tA3 ?_
          refine pGy hg1 ?_
          refine pBi ?_
          refine pPt hg1 (.bool _) ?_
          exact pE ⟨_, St.hav _ ⟨rfl, rfl, rfl, rfl, rfl, rfl, rfl, rfl, rfl, by rw [hg1]; rfl, trivial⟩⟩
        · refine pGn hg1 ?_
          refine pGn hg1 ?_
          refine pGn hg1 ?_
          refine pGn hg1 ?_
          refine pGn hg1 ?_
          refine pPf hg1 (.bool _) ?_
          exact pE ⟨_, St.hav _ ⟨rfl, rfl, rfl, rfl, rfl, rfl, rfl, rfl, rfl, by rw [hg1]; rfl, trivial⟩⟩
      · rintro _ ⟨J, rfl⟩
        refine pM (.bool _) ?_
        refine wpR_mid (l1 := [_, _, _, _, _, _]) (fun S' => ∃ J, S' = ⟨hav [(1, .lit l2 aB1.length ((flatL 0) aB1)), (6, .ptr b3 0), (9, .lit l1 aA0.length ((flatL 0) aA0)), (10, .int .i64 (aA0.length : Int)), (11, .int .i64 x1), (15, .lit l2 aB1.length ((flatL 0) aB1)), (16, .int .i64 (aB1.length : Int)), (17, .int .i64 x4), (39, .bool (((c2.Piece == c5.Piece) && decide (c2.From ≤ c5.To)) && decide (c5.From ≤ c2.To)))] J, G⟩) ?_ ?_
        · refine bc (b := ((c2.Piece == c5.Piece) && decide (c2.From ≤ c5.To))) (fun hg1 => ?_) (fun hg1 => ?_)
          · refine pGy hg1 ?_
            refine pF tF271_1 ?_
            refine pGy hg1 ?_
            refine pLo hO 0 (.int _ _) tA3 ?_
            refine pGy hg1 ?_
            refine pF tF271_2 ?_
            refine pGy hg1 ?_
            refine pLo hO 1 (.int _ _) tA3 ?_
            refine pGy hg1 ?_
            refine pBi ?_
            refine pPt hg1 (.bool _) ?_
            exact pE ⟨_, St.hav _ ⟨rfl, rfl, rfl, rfl, rfl, rfl, rfl, rfl, by rw [hg1]; rfl, trivial⟩⟩
          · refine pGn hg1 ?_
            refine pGn hg1 ?_
            refine pGn hg1 ?_
            refine pGn hg1 ?_
            refine pGn hg1 ?_
            refine pPf hg1 (.bool _) ?_
            exact pE ⟨_, St.hav _ ⟨rfl, rfl, rfl, rfl, rfl, rfl, rfl, rfl, by rw [hg1]; rfl, trivial⟩⟩
        · rintro _ ⟨J, rfl⟩
          refine pE ?_
          refine gn ?_
          refine wpL_cd (b := (((c2.Piece == c5.Piece) && decide (c2.From ≤ c5.To)) && decide (c5.From ≤ c2.To))) (fun hb => ?_) (fun hb => ?_)
          · replace hk := ct hb hk
            refine wpL_sq ?_
            refine wpL_rg ?_
            refine pA (.bool _) ?_
            refine pE ?_
            refine gn ?_
            refine wpL_rt ?_
            refine br (gr (gr (br (br (gr (gr (br (gr ?_))))))))
            replace hk := lx hx2 hk
            replace hk := lx hx1 hk
            replace hk := Option.some.inj hk; subst hk; exact fin0 hO
          · replace hk := cf hb hk
            refine wpL_sk ?_
            refine bn (gn ?_)
            refine wpL_rg ?_
            refine pBi ?_
            refine pM (.int _ _) ?_
            refine pE ?_
            refine gn ?_
            cases hk; exact ⟨_, rfl, _, _, (Owns.pick hO [1] (by decide) rfl), St.hav _ ⟨rfl, rfl, rfl, rfl, rfl, rfl, rfl, rfl, trivial⟩⟩
    · replace hk := cf hb hk
      refine wpL_ex ?_
      refine ge (ge (be (bn (gn ?_))))
      replace hk := lx hx2 hk
      refine wpL_rg ?_
      refine pBi ?_
      refine pM (.int _ _) ?_
      refine pE ?_
      refine gn ?_
      cases hk; exact ⟨_, rfl, _, _, (Owns.pick hO [] (by decide) rfl), St.hav _ ⟨rfl, rfl, rfl, rfl, trivial⟩⟩
  · replace hk := cf hb hk
    refine wpL_ex ?_
    refine ge (ge (be (gn ?_)))
    replace hk := lx hx1 hk
    refine wpL_sq ?_
    refine wpL_rg ?_
    refine pA (.bool _) ?_
    refine pE ?_
    refine gn ?_
    refine wpL_rt ?_
    replace hk := Option.some.inj hk; subst hk; exact fin0 hO
/-- spec.Needs -/
def f155_k3 (x10 : Int) (x11 : List Lie) : Option (((List Lie) × Int) ⊕ (List Lie)) :=
  some (.inl (x11, w64 (x10 + (1:Int))))
def f155_L4 (x8 : List Lie) (x10 : Int) (c13 : Flank) : ((List Lie) × Bool × Int) → Option (((List Lie) × Bool × Int) ⊕ (((List Lie) × Int) ⊕ (List Lie))) := fun s =>
  (bif decide (s.2.2 < (x8.length : Int)) then ((getI s.1 s.2.2).bind fun c19 => some (.inl (s.1, (s.2.1 || ((c19.Joint == c13.Of) && (c19.Lie == c13.Lie))), w64 (s.2.2 + (1:Int))))) else ((bif !s.2.1 then ((appB 16 s.1 ([({ Joint := c13.Of, Lie := c13.Lie } : Lie)] : List Lie)).bind fun z22 => (f155_k3 x10 z22)) else (f155_k3 x10 s.1)).map Sum.inr))
def f155_L2 (aR0 : Route) : ((List Lie) × Int) → Option (((List Lie) × Int) ⊕ (List Lie)) := fun s =>
  (bif decide (s.2 < (aR0.Flanks.length : Int)) then ((getI aR0.Flanks s.2).bind fun c13 => (bif (c13.Kind != (3:Int)) then (f155_k3 s.2 s.1) else (loopO (f155_L4 s.1 s.2 c13) (s.1, false, (0:Int))))) else ((some s.1).map Sum.inr))
def f155_L1 (aR0 : Route) : ((List Lie) × Int) → Option (((List Lie) × Int) ⊕ (List Lie)) := fun s =>
  (bif decide (s.2 < (aR0.Lies.length : Int)) then ((getI aR0.Lies s.2).bind fun c5 => ((appB 16 s.1 ([c5] : List Lie)).bind fun z7 => some (.inl (z7, w64 (s.2 + (1:Int)))))) else ((loopO (f155_L2 aR0) (s.1, (0:Int))).map Sum.inr))
def f155 (aR0 : Route) : Option (List Lie) :=
  (loopO (f155_L1 aR0) (([] : List Lie), (0:Int)))
theorem f155_run {aR0 : Route} {r : (List Lie)} {l1 l2 l3 l4 l5 l6 : Nat} {H : Heap} {lk : Lk} (hk : f155 aR0 = some r) (hlk : 0 < lk.length := by simp) : runL Try.prog hh 155 [.agg [.int .i64 aR0.From, .int .i64 aR0.To, .lit l1 aR0.Steps.length ((flatL 0) aR0.Steps), .lit l2 aR0.Lies.length ((flatL 0) aR0.Lies), .lit l3 aR0.Crosses.length ((flatL 0) aR0.Crosses), .lit l4 aR0.Parts.length ((flatL 0) aR0.Parts), .lit l5 aR0.Over.length ((flatL 0) aR0.Over), .lit l6 aR0.Flanks.length ((flatL 0) aR0.Flanks)]] H lk = some (.lit 0 r.length ((flatL 0) r), H) := by
  refine run_start Try.func155 rfl Try.ntmps155 Try.results155 rfl rfl fun hO => ?_
  unfold f155 at hk
  refine wpL_sq ?_
  refine wpL_rg ?_
  refine pBox (cs := [_, _, _, _, _, _, _, _]) hO tZ68 (fun b1 G hO => ?_)
  refine pA (.tl 0 []) ?_
  refine pE ?_
  refine gn ?_
  refine wpL_sq ?_
  refine wpL_rg ?_
  refine pA (.tl 0 []) ?_
  refine pE ?_
  refine gn ?_
  refine wpL_sq ?_
  refine wpL_sq ?_
  refine wpL_rg ?_
  refine pF tF68_3 ?_
  refine pLo hO 0 (.lit _ _ _) tA64 ?_
  refine pLen tS64 ?_
  refine pM (.int _ _) ?_
  refine pE ?_
  refine gn ?_
  refine wpL_bl ?_
  refine wpL_loopO (F := f155_L1 aR0) (fun s S' => ∃ (o2 : V) (J : Nat → V) (G : Heap), Owns H G [.blk b1 (.cells 8 [.int .i64 aR0.From, .int .i64 aR0.To, .lit l1 aR0.Steps.length ((flatL 0) aR0.Steps), .lit l2 aR0.Lies.length ((flatL 0) aR0.Lies), .lit l3 aR0.Crosses.length ((flatL 0) aR0.Crosses), .lit l4 aR0.Parts.length ((flatL 0) aR0.Parts), .lit l5 aR0.Over.length ((flatL 0) aR0.Over), .lit l6 aR0.Flanks.length ((flatL 0) aR0.Flanks)]), .own o2 lk.length 2 s.1.length ((flatL 0) s.1)] ∧ S' = ⟨hav [(1, .ptr b1 0), (3, o2), (12, .lit l2 aR0.Lies.length ((flatL 0) aR0.Lies)), (13, .int .i64 (aR0.Lies.length : Int)), (14, .int .i64 s.2)] J, G⟩) hk ⟨(.tl 0 []), _, _, (Owns.pick (Owns.addTl hO lk.length ([] : List Lie)) [1, 0] (by decide) rfl), St.hav _ ⟨rfl, rfl, rfl, rfl, rfl, trivial⟩⟩ ?_
  rintro ⟨x2, x4⟩ _ y1 ⟨o2, J, G, hO, rfl⟩ hk hx1
  refine wpL_sq ?_
  refine wpL_rg ?_
  refine pBi ?_
  refine pE ?_
  refine gn ?_
  refine wpL_sq ?_
  refine wpL_cd (b := decide (x4 < (aR0.Lies.length : Int))) (fun hb => ?_) (fun hb => ?_)
  · replace hk := ct hb hk
    refine wpL_sk ?_
    refine gn ?_
    refine wpL_sq ?_
    refine wpL_bl ?_
    refine wpL_sq ?_
    refine wpL_rg ?_
    obtain ⟨c5, hc5, hk⟩ := bs hk
    refine pX hc5 tE64 tZ206 ?_
    refine pLp (.agg [_, _]) (rd2 (lm := 0) (off := 0) hc5 tA206 tZ206) ?_
    refine pNew hO tZ206 t0206 (fun b6 G hO => ?_)
    refine pSt (xs := [_, _]) hO 0 tZ206 rfl (fun G hO => ?_)
    refine pE ?_
    refine gn ?_
    refine wpL_rg ?_
    refine pM o2 ?_
    refine pLs hO 0 [_, _] tA206 tZ206 ?_
    refine pBs (ps := [(0, (.agg [_, _]))]) ([c5] : List Lie) tE64 tZ206 t0206 (emb_cons (embx_agg (α := Lie) c5) (emb_nil)) ?_
    obtain ⟨z7, hz7, hk⟩ := bs hk
    refine pAp (xs := x2) hO 2 hz7 (bears_tl ([c5] : List Lie)) tE64 tZ206 tB206 t0206 tE64 rfl (fun o7 G hno7 hO => ?_)
    refine pA o7 ?_
    refine pE ?_
    refine bn (gn ?_)
    refine wpL_rg ?_
    refine pBi ?_
    refine pM (.int _ _) ?_
    refine pE ?_
    refine gn ?_
    cases hk; exact ⟨_, rfl, o7, _, _, (Owns.pick hO [1, 2] (by decide) rfl), St.hav _ ⟨rfl, rfl, rfl, rfl, rfl, trivial⟩⟩
  · replace hk := cf hb hk
    refine wpL_ex ?_
    refine ge (ge (be (gn ?_)))
    replace hk := lx hx1 hk
    refine wpL_sq ?_
    refine wpL_sq ?_
    refine wpL_rg ?_
    refine pF tF68_7 ?_
    refine pLo hO 0 (.lit _ _ _) tA66 ?_
    refine pLen tS66 ?_
    refine pM (.int _ _) ?_
    refine pE ?_
    refine gn ?_
    refine wpL_bl ?_
    refine wpL_loopO (F := f155_L2 aR0) (fun s S' => ∃ (o8 : V) (J : Nat → V) (G : Heap), Owns H G [.own o8 lk.length 2 s.1.length ((flatL 0) s.1)] ∧ S' = ⟨hav [(3, o8), (24, .lit l6 aR0.Flanks.length ((flatL 0) aR0.Flanks)), (25, .int .i64 (aR0.Flanks.length : Int)), (26, .int .i64 s.2)] J, G⟩) hk ⟨o2, _, _, (Owns.pick hO [1] (by decide) rfl), St.hav _ ⟨rfl, rfl, rfl, rfl, trivial⟩⟩ ?_
    rintro ⟨x8, x10⟩ _ y1 ⟨o8, J, G, hO, rfl⟩ hk hx1
    refine wpL_sq ?_
    refine wpL_rg ?_
    refine pBi ?_
    refine pE ?_
    refine gn ?_
    refine wpL_sq ?_
    refine wpL_cd (b := decide (x10 < (aR0.Flanks.length : Int))) (fun hb => ?_) (fun hb => ?_)
    · replace hk := ct hb hk
      refine wpL_sk ?_
      refine gn ?_
      refine wpL_mid (fun S' => ∃ (x11 : List Lie) (o11 : V) (J : Nat → V) (G : Heap), f155_k3 x10 x11 = some y1 ∧ Owns H G [.own o11 lk.length 2 x11.length ((flatL 0) x11)] ∧ S' = ⟨hav [(3, o11), (24, .lit l6 aR0.Flanks.length ((flatL 0) aR0.Flanks)), (25, .int .i64 (aR0.Flanks.length : Int)), (26, .int .i64 x10)] J, G⟩) ?_ ?_
      · refine wpL_bl ?_
        refine wpL_sq ?_
        refine wpL_rg ?_
        obtain ⟨c13, hc13, hk⟩ := bs hk
        refine pX hc13 tE66 tZ287 ?_
        refine pLp (.agg [_, _, _, _]) (rd2 (lm := 0) (off := 0) hc13 tA287 tZ287) ?_
        refine pNew hO tZ287 t0287 (fun b14 G hO => ?_)
        refine pSt (xs := [_, _, _, _]) hO 0 tZ287 rfl (fun G hO => ?_)
        refine pE ?_
        refine gn ?_
        refine wpL_sq ?_
        refine wpL_sq ?_
        refine wpL_rg ?_
        refine pF tF287_1 ?_
        refine pLo hO 0 (.int _ _) tA3 ?_
        refine pBi ?_
        refine pE ?_
        refine gn ?_
        refine wpL_cd (b := (c13.Kind != (3:Int))) (fun hb => ?_) (fun hb => ?_)
        · replace hk := ct hb hk
          refine wpL_ex ?_
          refine ge (be (gn ?_))
          exact ⟨x8, o8, _, _, hk, (Owns.pick hO [1] (by decide) rfl), St.hav _ ⟨rfl, rfl, rfl, rfl, trivial⟩⟩
        · replace hk := cf hb hk
          refine wpL_sk ?_
          refine gn ?_
          refine wpL_sq ?_
          refine wpL_rg ?_
          refine pA (.bool _) ?_
          refine pE ?_
          refine gn ?_
          refine wpL_sq ?_
          refine wpL_sq ?_
          refine wpL_rg ?_
          refine pM o8 ?_
          refine pLenO (bears_own hO (j := 1) rfl) tS64 ?_
          refine pM (.int _ _) ?_
          refine pE ?_
          refine gn ?_
          refine wpL_bl ?_
          refine wpL_loopO (F := f155_L4 x8 x10 c13) (fun s S' => ∃ (o15 : V) (J : Nat → V) (G : Heap), Owns H G [.blk b14 (.cells 4 [.int .i64 c13.At, .int .i64 c13.Kind, .int .i64 c13.Of, .int .i64 c13.Lie]), .own o15 lk.length 2 s.1.length ((flatL 0) s.1)] ∧ S' = ⟨hav [(3, o15), (7, .ptr b14 0), (8, .bool s.2.1), (24, .lit l6 aR0.Flanks.length ((flatL 0) aR0.Flanks)), (25, .int .i64 (aR0.Flanks.length : Int)), (26, .int .i64 x10), (33, o15), (34, .int .i64 (x8.length : Int)), (35, .int .i64 s.2.2)] J, G⟩) hk ⟨o8, _, _, hO, St.hav _ ⟨rfl, rfl, rfl, rfl, rfl, rfl, rfl, rfl, rfl, trivial⟩⟩ ?_
          rintro ⟨x15, x17, x18⟩ _ y2 ⟨o15, J, G, hO, rfl⟩ hk hx2
          refine wpL_sq ?_
          refine wpL_rg ?_
          refine pBi ?_
          refine pE ?_
          refine gn ?_
          refine wpL_sq ?_
          refine wpL_cd (b := decide (x18 < (x8.length : Int))) (fun hb => ?_) (fun hb => ?_)
          · replace hk := ct hb hk
            refine wpL_sk ?_
            refine gn ?_
            refine wpL_sq ?_
            refine wpL_bl ?_
            refine wpL_sq ?_
            refine wpL_rg ?_
            obtain ⟨c19, hc19, hk⟩ := bs hk
            refine pXo hO 1 hc19 tE64 tZ206 (fun lv20 => ?_)
            refine pLp (.agg [_, _]) (rd2 (lm := 0) (off := 0) hc19 tA206 tZ206) ?_
            refine pNew hO tZ206 t0206 (fun b21 G hO => ?_)
            refine pSt (xs := [_, _]) hO 0 tZ206 rfl (fun G hO => ?_)
            refine pE ?_
            refine gn ?_
            refine wpL_rg ?_
            refine pM (.bool _) ?_
            refine pM (.bool _) ?_
            refine wpR_mid (l1 := [_, _, _, _, _, _, _, _, _, _, _, _, _]) (fun S' => ∃ J, S' = ⟨hav [(3, o15), (7, .ptr b14 0), (24, .lit l6 aR0.Flanks.length ((flatL 0) aR0.Flanks)), (25, .int .i64 (aR0.Flanks.length : Int)), (26, .int .i64 x10), (33, o15), (34, .int .i64 (x8.length : Int)), (35, .int .i64 x18), (53, .bool (x17 || ((c19.Joint == c13.Of) && (c19.Lie == c13.Lie))))] J, G⟩) ?_ ?_
            · refine bc (b := x17) (fun hg1 => ?_) (fun hg1 => ?_)
              · refine pGn hg1 ?_
                refine pGn hg1 ?_
                refine pGn hg1 ?_
                refine pGn hg1 ?_
                refine pGn hg1 ?_
                refine pGn hg1 ?_
                refine pGu ?_
                refine pGu ?_
                refine pGu ?_
                refine pGu ?_
                refine pGu ?_
                refine pGn hg1 ?_
                refine pPt hg1 (.bool _) ?_
                exact pE ⟨_, St.hav _ ⟨rfl, rfl, rfl, rfl, rfl, rfl, rfl, rfl, by rw [hg1]; rfl, trivial⟩⟩
              · refine pGy hg1 ?_
                refine pF tF206_0 ?_
                refine pGy hg1 ?_
                refine pLo hO 0 (.int _ _) tA3 ?_
                refine pGy hg1 ?_
                refine pF tF287_2 ?_
                refine pGy hg1 ?_
                refine pLo hO 1 (.int _ _) tA3 ?_
                refine pGy hg1 ?_
                refine pBi ?_
                refine pGy hg1 ?_
                refine pM (.bool _) ?_
                refine wpR_mid (l1 := [_, _, _, _, _, _]) (fun S' => ∃ J, S' = ⟨hav [(3, o15), (7, .ptr b14 0), (24, .lit l6 aR0.Flanks.length ((flatL 0) aR0.Flanks)), (25, .int .i64 (aR0.Flanks.length : Int)), (26, .int .i64 x10), (33, o15), (34, .int .i64 (x8.length : Int)), (35, .int .i64 x18), (40, .bool x17), (52, .bool ((c19.Joint == c13.Of) && (c19.Lie == c13.Lie)))] J, G⟩) ?_ ?_
                · refine bc (b := (c19.Joint == c13.Of)) (fun hg2 => ?_) (fun hg2 => ?_)
                  · refine pGy hg2 ?_
                    refine pF tF206_1 ?_
                    refine pGy hg2 ?_
                    refine pLo hO 0 (.int _ _) tA3 ?_
                    refine pGy hg2 ?_
                    refine pF tF287_3 ?_
                    refine pGy hg2 ?_
                    refine pLo hO 1 (.int _ _) tA3 ?_
                    refine pGy hg2 ?_
                    refine pBi ?_
                    refine pGy hg1 ?_
                    refine pPt hg2 (.bool _) ?_
                    exact pE ⟨_, St.hav _ ⟨rfl, rfl, rfl, rfl, rfl, rfl, rfl, rfl, rfl, by rw [hg2]; rfl, trivial⟩⟩
                  · refine pGn hg2 ?_
                    refine pGn hg2 ?_
                    refine pGn hg2 ?_
                    refine pGn hg2 ?_
                    refine pGn hg2 ?_
                    refine pGy hg1 ?_
                    refine pPf hg2 (.bool _) ?_
                    exact pE ⟨_, St.hav _ ⟨rfl, rfl, rfl, rfl, rfl, rfl, rfl, rfl, rfl, by rw [hg2]; rfl, trivial⟩⟩
                · rintro _ ⟨J, rfl⟩
                  refine pPf hg1 (.bool _) ?_
                  exact pE ⟨_, St.hav _ ⟨rfl, rfl, rfl, rfl, rfl, rfl, rfl, rfl, by rw [hg1]; rfl, trivial⟩⟩
            · rintro _ ⟨J, rfl⟩
              refine pA (.bool _) ?_
              refine pE ?_
              refine bn (gn ?_)
              refine wpL_rg ?_
              refine pBi ?_
              refine pM (.int _ _) ?_
              refine pE ?_
              refine gn ?_
              cases hk; exact ⟨_, rfl, o15, _, _, (Owns.pick hO [1, 2] (by decide) rfl), St.hav _ ⟨rfl, rfl, rfl, rfl, rfl, rfl, rfl, rfl, rfl, trivial⟩⟩
          · replace hk := cf hb hk
            refine wpL_ex ?_
            refine ge (ge (be (gn ?_)))
            replace hk := lx hx2 hk
            refine wpL_sq ?_
            refine wpL_rg ?_
            refine pM (.bool _) ?_
            refine pU ?_
            refine pE ?_
            refine gn ?_
            refine wpL_cd (b := !x17) (fun hb => ?_) (fun hb => ?_)
            · replace hk := ct hb hk
              refine wpL_rg ?_
              refine pM o15 ?_
              refine pF tF287_2 ?_
              refine pLo hO 0 (.int _ _) tA3 ?_
              refine pF tF287_3 ?_
              refine pLo hO 0 (.int _ _) tA3 ?_
              refine pBd [_, _] t0206 tP206 ?_
              refine pBs (ps := [(0, (.agg [_, _]))]) ([({ Joint := c13.Of, Lie := c13.Lie } : Lie)] : List Lie) tE64 tZ206 t0206 (emb_cons (embx_agg (α := Lie) ({ Joint := c13.Of, Lie := c13.Lie } : Lie)) (emb_nil)) ?_
              obtain ⟨z22, hz22, hk⟩ := bs hk
              refine pAp (xs := x15) hO 1 hz22 (bears_tl ([({ Joint := c13.Of, Lie := c13.Lie } : Lie)] : List Lie)) tE64 tZ206 tB206 t0206 tE64 rfl (fun o22 G hno22 hO => ?_)
              refine pA o22 ?_
              refine pE ?_
              refine bn (gn ?_)
              exact ⟨z22, o22, _, _, hk, (Owns.pick hO [1] (by decide) rfl), St.hav _ ⟨rfl, rfl, rfl, rfl, trivial⟩⟩
            · replace hk := cf hb hk
              refine wpL_sk ?_
              refine bn (gn ?_)
              exact ⟨x15, o15, _, _, hk, (Owns.pick hO [1] (by decide) rfl), St.hav _ ⟨rfl, rfl, rfl, rfl, trivial⟩⟩
      · rintro _ ⟨x11, o11, J, G, hk, hO, rfl⟩
        refine wpL_rg ?_
        refine pBi ?_
        refine pM (.int _ _) ?_
        refine pE ?_
        refine gn ?_
        cases hk; exact ⟨_, rfl, o11, _, _, hO, St.hav _ ⟨rfl, rfl, rfl, rfl, trivial⟩⟩
    · replace hk := cf hb hk
      refine wpL_ex ?_
      refine ge (ge (be (gn ?_)))
      replace hk := lx hx1 hk
      refine wpL_sq ?_
      refine wpL_rg ?_
      refine pM o8 ?_
      refine pA o8 ?_
      refine pE ?_
      refine gn ?_
      refine wpL_rt ?_
      replace hk := Option.some.inj hk; subst hk; exact finZ hO (fz_own (xs := x8) hlk 0) (resT o8 resN)
/-- spec.Exclude -/
def f47_L2 (aB1 : Route) (x4 : Int) (c5 : Int) : Int → Option (Int ⊕ (Int ⊕ Int)) := fun s =>
  (bif decide (s < (aB1.Crosses.length : Int)) then ((getI aB1.Crosses s).bind fun c7 => (bif (c5 == c7) then (((some (2:Int)).map Sum.inr).map Sum.inr) else some (.inl (w64 (s + (1:Int)))))) else ((some (.inl (w64 (x4 + (1:Int))))).map Sum.inr))
def f47_L4 (x9 : Int) (c10 : Lie) (v12 : (List Lie)) : Int → Option (Int ⊕ (Int ⊕ Int)) := fun s =>
  (bif decide (s < (v12.length : Int)) then ((getI v12 s).bind fun c14 => (bif ((c10.Joint == c14.Joint) && (c10.Lie != c14.Lie)) then (((some (3:Int)).map Sum.inr).map Sum.inr) else some (.inl (w64 (s + (1:Int)))))) else ((some (.inl (w64 (x9 + (1:Int))))).map Sum.inr))
def f47_L3 (aA0 : Route) (aB1 : Route) (v8 : (List Lie)) : Int → Option (Int ⊕ Int) := fun s =>
  (bif decide (s < (v8.length : Int)) then ((getI v8 s).bind fun c10 => ((f155 aB1).bind fun v12 => (loopO (f47_L4 s c10 v12) ((0:Int))))) else (((f154 aA0.Over aB1.Parts).bind fun v16 => ((bif v16 then some true else ((f154 aA0.Parts aB1.Over).bind fun v18 => some v18)).bind fun t17 => (bif t17 then some (4:Int) else some (0:Int)))).map Sum.inr))
def f47_L1 (aA0 : Route) (aB1 : Route) : Int → Option (Int ⊕ Int) := fun s =>
  (bif decide (s < (aA0.Crosses.length : Int)) then ((getI aA0.Crosses s).bind fun c5 => (loopO (f47_L2 aB1 s c5) ((0:Int)))) else (((f155 aA0).bind fun v8 => (loopO (f47_L3 aA0 aB1 v8) ((0:Int)))).map Sum.inr))
def f47 (aA0 : Route) (aB1 : Route) : Option Int :=
  ((f154 aA0.Parts aB1.Parts).bind fun v3 => (bif v3 then some (1:Int) else (loopO (f47_L1 aA0 aB1) ((0:Int)))))
theorem f47_run {aA0 : Route} {aB1 : Route} {r : Int} {l1 l2 l3 l4 l5 l6 l7 l8 l9 l10 l11 l12 : Nat} {H : Heap} {lk : Lk} (hk : f47 aA0 aB1 = some r) (hlk : 0 < lk.length := by simp) : runL Try.prog hh 47 [.agg [.int .i64 aA0.From, .int .i64 aA0.To, .lit l1 aA0.Steps.length ((flatL 0) aA0.Steps), .lit l2 aA0.Lies.length ((flatL 0) aA0.Lies), .lit l3 aA0.Crosses.length ((flatL 0) aA0.Crosses), .lit l4 aA0.Parts.length ((flatL 0) aA0.Parts), .lit l5 aA0.Over.length ((flatL 0) aA0.Over), .lit l6 aA0.Flanks.length ((flatL 0) aA0.Flanks)], .agg [.int .i64 aB1.From, .int .i64 aB1.To, .lit l7 aB1.Steps.length ((flatL 0) aB1.Steps), .lit l8 aB1.Lies.length ((flatL 0) aB1.Lies), .lit l9 aB1.Crosses.length ((flatL 0) aB1.Crosses), .lit l10 aB1.Parts.length ((flatL 0) aB1.Parts), .lit l11 aB1.Over.length ((flatL 0) aB1.Over), .lit l12 aB1.Flanks.length ((flatL 0) aB1.Flanks)]] H lk = some (.int .i64 r, H) := by
  refine run_start Try.func47 rfl Try.ntmps47 Try.results47 rfl rfl fun hO => ?_
  unfold f47 at hk
  refine wpL_sq ?_
  refine wpL_rg ?_
  refine pBox (cs := [_, _, _, _, _, _, _, _]) hO tZ68 (fun b1 G hO => ?_)
  refine pBox (cs := [_, _, _, _, _, _, _, _]) hO tZ68 (fun b2 G hO => ?_)
  refine pA (.int _ _) ?_
  refine pE ?_
  refine gn ?_
  refine wpL_sq ?_
  refine wpL_sq ?_
  refine wpL_rg ?_
  refine pF tF68_5 ?_
  refine pLo hO 1 (.lit _ _ _) tA65 ?_
  refine pF tF68_5 ?_
  refine pLo hO 0 (.lit _ _ _) tA65 ?_
  obtain ⟨v3, hv3, hk⟩ := bs hk
  refine pCall (fun _ => f154_run hv3) ?_
  refine pE ?_
  refine gn ?_
  refine wpL_cd (b := v3) (fun hb => ?_) (fun hb => ?_)
  · replace hk := ct hb hk
    refine wpL_sq ?_
    refine wpL_rg ?_
    refine pA (.int _ _) ?_
    refine pE ?_
    refine gn ?_
    refine wpL_rt ?_
    refine gr ?_
    replace hk := Option.some.inj hk; subst hk; exact fin0 hO
  · replace hk := cf hb hk
    refine wpL_sk ?_
    refine gn ?_
    refine wpL_sq ?_
    refine wpL_sq ?_
    refine wpL_rg ?_
    refine pF tF68_4 ?_
    refine pLo hO 1 (.lit _ _ _) tA26 ?_
    refine pLen tS26 ?_
    refine pM (.int _ _) ?_
    refine pE ?_
    refine gn ?_
    refine wpL_bl ?_
    refine wpL_loopO (F := f47_L1 aA0 aB1) (fun s S' => ∃ (J : Nat → V) (G : Heap), Owns H G [.blk b2 (.cells 8 [.int .i64 aB1.From, .int .i64 aB1.To, .lit l7 aB1.Steps.length ((flatL 0) aB1.Steps), .lit l8 aB1.Lies.length ((flatL 0) aB1.Lies), .lit l9 aB1.Crosses.length ((flatL 0) aB1.Crosses), .lit l10 aB1.Parts.length ((flatL 0) aB1.Parts), .lit l11 aB1.Over.length ((flatL 0) aB1.Over), .lit l12 aB1.Flanks.length ((flatL 0) aB1.Flanks)]), .blk b1 (.cells 8 [.int .i64 aA0.From, .int .i64 aA0.To, .lit l1 aA0.Steps.length ((flatL 0) aA0.Steps), .lit l2 aA0.Lies.length ((flatL 0) aA0.Lies), .lit l3 aA0.Crosses.length ((flatL 0) aA0.Crosses), .lit l4 aA0.Parts.length ((flatL 0) aA0.Parts), .lit l5 aA0.Over.length ((flatL 0) aA0.Over), .lit l6 aA0.Flanks.length ((flatL 0) aA0.Flanks)])] ∧ S' = ⟨hav [(2, .ptr b1 0), (3, .ptr b2 0), (19, .lit l3 aA0.Crosses.length ((flatL 0) aA0.Crosses)), (20, .int .i64 (aA0.Crosses.length : Int)), (21, .int .i64 s)] J, G⟩) hk ⟨_, _, hO, St.hav _ ⟨rfl, rfl, rfl, rfl, rfl, trivial⟩⟩ ?_
    rintro x4 _ y1 ⟨J, G, hO, rfl⟩ hk hx1
    refine wpL_sq ?_
    refine wpL_rg ?_
    refine pBi ?_
    refine pE ?_
    refine gn ?_
    refine wpL_sq ?_
    refine wpL_cd (b := decide (x4 < (aA0.Crosses.length : Int))) (fun hb => ?_) (fun hb => ?_)
    · replace hk := ct hb hk
      refine wpL_sk ?_
      refine gn ?_
      refine wpL_sq ?_
      refine wpL_bl ?_
      refine wpL_sq ?_
      refine wpL_rg ?_
      obtain ⟨c5, hc5, hk⟩ := bs hk
      refine pX hc5 tE26 tZ3 ?_
      refine pLp (.int _ _) (rd1 (lm := 0) (off := 0) hc5 tA3) ?_
      refine pA (.int _ _) ?_
      refine pE ?_
      refine gn ?_
      refine wpL_sq ?_
      refine wpL_rg ?_
      refine pF tF68_4 ?_
      refine pLo hO 0 (.lit _ _ _) tA26 ?_
      refine pLen tS26 ?_
      refine pM (.int _ _) ?_
      refine pE ?_
      refine gn ?_
      refine wpL_bl ?_
      refine wpL_loopO (F := f47_L2 aB1 x4 c5) (fun s S' => ∃ (J : Nat → V) (G : Heap), Owns H G [.blk b2 (.cells 8 [.int .i64 aB1.From, .int .i64 aB1.To, .lit l7 aB1.Steps.length ((flatL 0) aB1.Steps), .lit l8 aB1.Lies.length ((flatL 0) aB1.Lies), .lit l9 aB1.Crosses.length ((flatL 0) aB1.Crosses), .lit l10 aB1.Parts.length ((flatL 0) aB1.Parts), .lit l11 aB1.Over.length ((flatL 0) aB1.Over), .lit l12 aB1.Flanks.length ((flatL 0) aB1.Flanks)]), .blk b1 (.cells 8 [.int .i64 aA0.From, .int .i64 aA0.To, .lit l1 aA0.Steps.length ((flatL 0) aA0.Steps), .lit l2 aA0.Lies.length ((flatL 0) aA0.Lies), .lit l3 aA0.Crosses.length ((flatL 0) aA0.Crosses), .lit l4 aA0.Parts.length ((flatL 0) aA0.Parts), .lit l5 aA0.Over.length ((flatL 0) aA0.Over), .lit l6 aA0.Flanks.length ((flatL 0) aA0.Flanks)])] ∧ S' = ⟨hav [(2, .ptr b1 0), (3, .ptr b2 0), (6, .int .i64 c5), (19, .lit l3 aA0.Crosses.length ((flatL 0) aA0.Crosses)), (20, .int .i64 (aA0.Crosses.length : Int)), (21, .int .i64 x4), (26, .lit l9 aB1.Crosses.length ((flatL 0) aB1.Crosses)), (27, .int .i64 (aB1.Crosses.length : Int)), (28, .int .i64 s)] J, G⟩) hk ⟨_, _, hO, St.hav _ ⟨rfl, rfl, rfl, rfl, rfl, rfl, rfl, rfl, rfl, trivial⟩⟩ ?_
      rintro x6 _ y2 ⟨J, G, hO, rfl⟩ hk hx2
      refine wpL_sq ?_
      refine wpL_rg ?_
      refine pBi ?_
      refine pE ?_
      refine gn ?_
      refine wpL_sq ?_
      refine wpL_cd (b := decide (x6 < (aB1.Crosses.length : Int))) (fun hb => ?_) (fun hb => ?_)
      · replace hk := ct hb hk
        refine wpL_sk ?_
        refine gn ?_
        refine wpL_sq ?_
        refine wpL_bl ?_
        refine wpL_sq ?_
        refine wpL_rg ?_
        obtain ⟨c7, hc7, hk⟩ := bs hk
        refine pX hc7 tE26 tZ3 ?_
        refine pLp (.int _ _) (rd1 (lm := 0) (off := 0) hc7 tA3) ?_
        refine pA (.int _ _) ?_
        refine pE ?_
        refine gn ?_
        refine wpL_sq ?_
        refine wpL_rg ?_
        refine pM (.int _ _) ?_
        refine pM (.int _ _) ?_
        refine pBi ?_
        refine pE ?_
        refine gn ?_
        refine wpL_cd (b := (c5 == c7)) (fun hb => ?_) (fun hb => ?_)
        · replace hk := ct hb hk
          refine wpL_sq ?_
          refine wpL_rg ?_
          refine pA (.int _ _) ?_
          refine pE ?_
          refine gn ?_
          refine wpL_rt ?_
          refine br (gr (gr (br (br (gr (gr (br (gr ?_))))))))
          replace hk := lx hx2 hk
          replace hk := lx hx1 hk
          replace hk := Option.some.inj hk; subst hk; exact fin0 hO
        · replace hk := cf hb hk
          refine wpL_sk ?_
          refine bn (gn ?_)
          refine wpL_rg ?_
          refine pBi ?_
          refine pM (.int _ _) ?_
          refine pE ?_
          refine gn ?_
          cases hk; exact ⟨_, rfl, _, _, hO, St.hav _ ⟨rfl, rfl, rfl, rfl, rfl, rfl, rfl, rfl, rfl, trivial⟩⟩
      · replace hk := cf hb hk
        refine wpL_ex ?_
        refine ge (ge (be (bn (gn ?_))))
        replace hk := lx hx2 hk
        refine wpL_rg ?_
        refine pBi ?_
        refine pM (.int _ _) ?_
        refine pE ?_
        refine gn ?_
        cases hk; exact ⟨_, rfl, _, _, hO, St.hav _ ⟨rfl, rfl, rfl, rfl, rfl, trivial⟩⟩
    · replace hk := cf hb hk
      refine wpL_ex ?_
      refine ge (ge (be (gn ?_)))
      replace hk := lx hx1 hk
      refine wpL_sq ?_
      refine wpL_sq ?_
      refine wpL_rg ?_
      refine pLs hO 1 [_, _, _, _, _, _, _, _] tA68 tZ68 ?_
      obtain ⟨v8, hv8, hk⟩ := bs hk
      refine pCall (fun _ => f155_run hv8) ?_
      refine pLen tS64 ?_
      refine pM (.int _ _) ?_
      refine pE ?_
      refine gn ?_
      refine wpL_bl ?_
      refine wpL_loopO (F := f47_L3 aA0 aB1 v8) (fun s S' => ∃ (J : Nat → V) (G : Heap), Owns H G [.blk b2 (.cells 8 [.int .i64 aB1.From, .int .i64 aB1.To, .lit l7 aB1.Steps.length ((flatL 0) aB1.Steps), .lit l8 aB1.Lies.length ((flatL 0) aB1.Lies), .lit l9 aB1.Crosses.length ((flatL 0) aB1.Crosses), .lit l10 aB1.Parts.length ((flatL 0) aB1.Parts), .lit l11 aB1.Over.length ((flatL 0) aB1.Over), .lit l12 aB1.Flanks.length ((flatL 0) aB1.Flanks)]), .blk b1 (.cells 8 [.int .i64 aA0.From, .int .i64 aA0.To, .lit l1 aA0.Steps.length ((flatL 0) aA0.Steps), .lit l2 aA0.Lies.length ((flatL 0) aA0.Lies), .lit l3 aA0.Crosses.length ((flatL 0) aA0.Crosses), .lit l4 aA0.Parts.length ((flatL 0) aA0.Parts), .lit l5 aA0.Over.length ((flatL 0) aA0.Over), .lit l6 aA0.Flanks.length ((flatL 0) aA0.Flanks)])] ∧ S' = ⟨hav [(2, .ptr b1 0), (3, .ptr b2 0), (38, .lit 0 v8.length ((flatL 0) v8)), (39, .int .i64 (v8.length : Int)), (40, .int .i64 s)] J, G⟩) hk ⟨_, _, hO, St.hav _ ⟨rfl, rfl, rfl, rfl, rfl, trivial⟩⟩ ?_
      rintro x9 _ y1 ⟨J, G, hO, rfl⟩ hk hx1
      refine wpL_sq ?_
      refine wpL_rg ?_
      refine pBi ?_
      refine pE ?_
      refine gn ?_
      refine wpL_sq ?_
      refine wpL_cd (b := decide (x9 < (v8.length : Int))) (fun hb => ?_) (fun hb => ?_)
      · replace hk := ct hb hk
        refine wpL_sk ?_
        refine gn ?_
        refine wpL_sq ?_
        refine wpL_bl ?_
        refine wpL_sq ?_
        refine wpL_rg ?_
        obtain ⟨c10, hc10, hk⟩ := bs hk
        refine pX hc10 tE64 tZ206 ?_
        refine pLp (.agg [_, _]) (rd2 (lm := 0) (off := 0) hc10 tA206 tZ206) ?_
        refine pNew hO tZ206 t0206 (fun b11 G hO => ?_)
        refine pSt (xs := [_, _]) hO 0 tZ206 rfl (fun G hO => ?_)
        refine pE ?_
        refine gn ?_
        refine wpL_sq ?_
        refine wpL_rg ?_
        refine pLs hO 1 [_, _, _, _, _, _, _, _] tA68 tZ68 ?_
        obtain ⟨v12, hv12, hk⟩ := bs hk
        refine pCall (fun _ => f155_run hv12) ?_
        refine pLen tS64 ?_
        refine pM (.int _ _) ?_
        refine pE ?_
        refine gn ?_
        refine wpL_bl ?_
        refine wpL_loopO (F := f47_L4 x9 c10 v12) (fun s S' => ∃ (J : Nat → V) (G : Heap), Owns H G [.blk b11 (.cells 2 [.int .i64 c10.Joint, .int .i64 c10.Lie]), .blk b2 (.cells 8 [.int .i64 aB1.From, .int .i64 aB1.To, .lit l7 aB1.Steps.length ((flatL 0) aB1.Steps), .lit l8 aB1.Lies.length ((flatL 0) aB1.Lies), .lit l9 aB1.Crosses.length ((flatL 0) aB1.Crosses), .lit l10 aB1.Parts.length ((flatL 0) aB1.Parts), .lit l11 aB1.Over.length ((flatL 0) aB1.Over), .lit l12 aB1.Flanks.length ((flatL 0) aB1.Flanks)]), .blk b1 (.cells 8 [.int .i64 aA0.From, .int .i64 aA0.To, .lit l1 aA0.Steps.length ((flatL 0) aA0.Steps), .lit l2 aA0.Lies.length ((flatL 0) aA0.Lies), .lit l3 aA0.Crosses.length ((flatL 0) aA0.Crosses), .lit l4 aA0.Parts.length ((flatL 0) aA0.Parts), .lit l5 aA0.Over.length ((flatL 0) aA0.Over), .lit l6 aA0.Flanks.length ((flatL 0) aA0.Flanks)])] ∧ S' = ⟨hav [(2, .ptr b1 0), (3, .ptr b2 0), (10, .ptr b11 0), (38, .lit 0 v8.length ((flatL 0) v8)), (39, .int .i64 (v8.length : Int)), (40, .int .i64 x9), (45, .lit 0 v12.length ((flatL 0) v12)), (46, .int .i64 (v12.length : Int)), (47, .int .i64 s)] J, G⟩) hk ⟨_, _, hO, St.hav _ ⟨rfl, rfl, rfl, rfl, rfl, rfl, rfl, rfl, rfl, trivial⟩⟩ ?_
        rintro x13 _ y2 ⟨J, G, hO, rfl⟩ hk hx2
        refine wpL_sq ?_
        refine wpL_rg ?_
        refine pBi ?_
        refine pE ?_
        refine gn ?_
        refine wpL_sq ?_
        refine wpL_cd (b := decide (x13 < (v12.length : Int))) (fun hb => ?_) (fun hb => ?_)
        · replace hk := ct hb hk
          refine wpL_sk ?_
          refine gn ?_
          refine wpL_sq ?_
          refine wpL_bl ?_
          refine wpL_sq ?_
          refine wpL_rg ?_
          obtain ⟨c14, hc14, hk⟩ := bs hk
          refine pX hc14 tE64 tZ206 ?_
          refine pLp (.agg [_, _]) (rd2 (lm := 0) (off := 0) hc14 tA206 tZ206) ?_
          refine pNew hO tZ206 t0206 (fun b15 G hO => ?_)
          refine pSt (xs := [_, _]) hO 0 tZ206 rfl (fun G hO => ?_)
          refine pE ?_
          refine gn ?_
          refine wpL_sq ?_
          refine wpL_rg ?_
          refine pF tF206_0 ?_
          refine pLo hO 1 (.int _ _) tA3 ?_
          refine pF tF206_0 ?_
          refine pLo hO 0 (.int _ _) tA3 ?_
          refine pBi ?_
          refine pM (.bool _) ?_
          refine wpR_mid (l1 := [_, _, _, _, _, _]) (fun S' => ∃ J, S' = ⟨hav [(2, .ptr b1 0), (3, .ptr b2 0), (10, .ptr b11 0), (38, .lit 0 v8.length ((flatL 0) v8)), (39, .int .i64 (v8.length : Int)), (40, .int .i64 x9), (45, .lit 0 v12.length ((flatL 0) v12)), (46, .int .i64 (v12.length : Int)), (47, .int .i64 x13), (62, .bool ((c10.Joint == c14.Joint) && (c10.Lie != c14.Lie)))] J, G⟩) ?_ ?_
          · refine bc (b := (c10.Joint == c14.Joint)) (fun hg1 => ?_) (fun hg1 => ?_)
            · refine pGy hg1 ?_
              refine pF tF206_1 ?_
              refine pGy hg1 ?_
              refine pLo hO 1 (.int _ _) tA3 ?_
              refine pGy hg1 ?_
              refine pF tF206_1 ?_
              refine pGy hg1 ?_
              refine pLo hO 0 (.int _ _) tA3 ?_
              refine pGy hg1 ?_
              refine pBi ?_
              refine pPt hg1 (.bool _) ?_
              exact pE ⟨_, St.hav _ ⟨rfl, rfl, rfl, rfl, rfl, rfl, rfl, rfl, rfl, by rw [hg1]; rfl, trivial⟩⟩
            · refine pGn hg1 ?_
              refine pGn hg1 ?_
              refine pGn hg1 ?_
              refine pGn hg1 ?_
              refine pGn hg1 ?_
              refine pPf hg1 (.bool _) ?_
              exact pE ⟨_, St.hav _ ⟨rfl, rfl, rfl, rfl, rfl, rfl, rfl, rfl, rfl, by rw [hg1]; rfl, trivial⟩⟩
          · rintro _ ⟨J, rfl⟩
            refine pE ?_
            refine gn ?_
            refine wpL_cd (b := ((c10.Joint == c14.Joint) && (c10.Lie != c14.Lie))) (fun hb => ?_) (fun hb => ?_)
            · replace hk := ct hb hk
              refine wpL_sq ?_
              refine wpL_rg ?_
              refine pA (.int _ _) ?_
              refine pE ?_
              refine gn ?_
              refine wpL_rt ?_
              refine br (gr (gr (br (br (gr (gr (br (gr ?_))))))))
              replace hk := lx hx2 hk
              replace hk := lx hx1 hk
              replace hk := Option.some.inj hk; subst hk; exact fin0 hO
            · replace hk := cf hb hk
              refine wpL_sk ?_
              refine bn (gn ?_)
              refine wpL_rg ?_
              refine pBi ?_
              refine pM (.int _ _) ?_
              refine pE ?_
              refine gn ?_
              cases hk; exact ⟨_, rfl, _, _, (Owns.pick hO [1, 2, 3] (by decide) rfl), St.hav _ ⟨rfl, rfl, rfl, rfl, rfl, rfl, rfl, rfl, rfl, trivial⟩⟩
        · replace hk := cf hb hk
          refine wpL_ex ?_
          refine ge (ge (be (bn (gn ?_))))
          replace hk := lx hx2 hk
          refine wpL_rg ?_
          refine pBi ?_
          refine pM (.int _ _) ?_
          refine pE ?_
          refine gn ?_
          cases hk; exact ⟨_, rfl, _, _, (Owns.pick hO [1, 2] (by decide) rfl), St.hav _ ⟨rfl, rfl, rfl, rfl, rfl, trivial⟩⟩
      · replace hk := cf hb hk
        refine wpL_ex ?_
        refine ge (ge (be (gn ?_)))
        replace hk := lx hx1 hk
        refine wpL_sq ?_
        refine wpL_sq ?_
        refine wpL_rg ?_
        refine pF tF68_6 ?_
        refine pLo hO 1 (.lit _ _ _) tA65 ?_
        refine pF tF68_5 ?_
        refine pLo hO 0 (.lit _ _ _) tA65 ?_
        obtain ⟨v16, hv16, hk⟩ := bs hk
        refine pCall (fun _ => f154_run hv16) ?_
        refine pM (.bool _) ?_
        obtain ⟨t17, ht, hk⟩ := bs hk
        refine wpR_mid (l1 := [_, _, _, _, _, _]) (fun S' => ∃ J, S' = ⟨hav [(76, .bool t17)] J, G⟩) ?_ ?_
        · refine bc (b := v16) (fun hg1 => ?_) (fun hg1 => ?_)
          · replace hk := ct hg1 ht
            refine pGn hg1 ?_
            refine pGn hg1 ?_
            refine pGn hg1 ?_
            refine pGn hg1 ?_
            refine pGn hg1 ?_
            refine pPt hg1 (.bool _) ?_
            cases hk; exact pE ⟨_, St.hav _ ⟨rfl, trivial⟩⟩
          · replace hk := cf hg1 ht
            refine pGy hg1 ?_
            refine pF tF68_5 ?_
            refine pGy hg1 ?_
            refine pLo hO 1 (.lit _ _ _) tA65 ?_
            refine pGy hg1 ?_
            refine pF tF68_6 ?_
            refine pGy hg1 ?_
            refine pLo hO 0 (.lit _ _ _) tA65 ?_
            refine pGy hg1 ?_
            obtain ⟨v18, hv18, hk⟩ := bs hk
            refine pCall (fun _ => f154_run hv18) ?_
            refine pPf hg1 (.bool _) ?_
            cases hk; exact pE ⟨_, St.hav _ ⟨rfl, trivial⟩⟩
        · rintro _ ⟨J, rfl⟩
          refine pE ?_
          refine gn ?_
          refine wpL_cd (b := t17) (fun hb => ?_) (fun hb => ?_)
          · replace hk := ct hb hk
            refine wpL_sq ?_
            refine wpL_rg ?_
            refine pA (.int _ _) ?_
            refine pE ?_
            refine gn ?_
            refine wpL_rt ?_
            refine gr ?_
            replace hk := Option.some.inj hk; subst hk; exact fin0 hO
          · replace hk := cf hb hk
            refine wpL_sk ?_
            refine gn ?_
            refine wpL_sq ?_
            refine wpL_rg ?_
            refine pA (.int _ _) ?_
            refine pE ?_
            refine gn ?_
            refine wpL_rt ?_
            replace hk := Option.some.inj hk; subst hk; exact fin0 hO
/-- spec.Table -/
def f61_L2 (aRoutes0 : List Route) (x3 : Int) (c4 : Route) : ((List (List Int)) × (List Int) × Int) → Option (((List (List Int)) × (List Int) × Int) ⊕ (((List (List Int)) × Int) ⊕ (List (List Int)))) := fun s =>
  (bif decide (s.2.2 < (aRoutes0.length : Int)) then ((getI aRoutes0 s.2.2).bind fun c11 => ((f47 c4 c11).bind fun v13 => ((appB 8 s.2.1 ([v13] : List Int)).bind fun z14 => some (.inl (s.1, z14, w64 (s.2.2 + (1:Int))))))) else (((appB 24 s.1 ([s.2.1] : List (List Int))).bind fun z15 => some (.inl (z15, w64 (x3 + (1:Int))))).map Sum.inr))
def f61_L1 (aRoutes0 : List Route) : ((List (List Int)) × Int) → Option (((List (List Int)) × Int) ⊕ (List (List Int))) := fun s =>
  (bif decide (s.2 < (aRoutes0.length : Int)) then ((getI aRoutes0 s.2).bind fun c4 => (loopO (f61_L2 aRoutes0 s.2 c4) (s.1, ([] : List Int), (0:Int)))) else ((some s.1).map Sum.inr))
def f61 (aRoutes0 : List Route) : Option (List (List Int)) :=
  (bif decide ((aRoutes0.length : Int) > (300:Int)) then some ([] : List (List Int)) else (loopO (f61_L1 aRoutes0) (([] : List (List Int)), (0:Int))))
theorem f61_run {aRoutes0 : List Route} {r : (List (List Int))} {l1 m2 : Nat} {H : Heap} {lk : Lk} (hk : f61 aRoutes0 = some r) (hlk : 0 < lk.length := by simp) : runL Try.prog hh 61 [.lit l1 aRoutes0.length (flatL m2 aRoutes0)] H lk = some (.lit 0 r.length ((flatL 0) r), H) := by
  refine run_start Try.func61 rfl Try.ntmps61 Try.results61 rfl rfl fun hO => ?_
  unfold f61 at hk
  refine wpL_sq ?_
  refine wpL_rg ?_
  refine pA (.tl 0 []) ?_
  refine pE ?_
  refine gn ?_
  refine wpL_sq ?_
  refine wpL_sq ?_
  refine wpL_rg ?_
  refine pM (.lit _ _ _) ?_
  refine pLen tS96 ?_
  refine pBi ?_
  refine pE ?_
  refine gn ?_
  refine wpL_cd (b := decide ((aRoutes0.length : Int) > (300:Int))) (fun hb => ?_) (fun hb => ?_)
  · replace hk := ct hb hk
    refine wpL_sq ?_
    refine wpL_rg ?_
    refine pA (.tl 0 []) ?_
    refine pE ?_
    refine gn ?_
    refine wpL_rt ?_
    refine gr ?_
    replace hk := Option.some.inj hk; subst hk; exact finZ hO (fz_nil (k := 0) (List Int)) (resT (.tl 0 []) resN)
  · replace hk := cf hb hk
    refine wpL_sk ?_
    refine gn ?_
    refine wpL_sq ?_
    refine wpL_rg ?_
    refine pA (.tl 0 []) ?_
    refine pE ?_
    refine gn ?_
    refine wpL_sq ?_
    refine wpL_sq ?_
    refine wpL_rg ?_
    refine pM (.lit _ _ _) ?_
    refine pLen tS96 ?_
    refine pM (.int _ _) ?_
    refine pE ?_
    refine gn ?_
    refine wpL_bl ?_
    refine wpL_loopO (F := f61_L1 aRoutes0) (fun s S' => ∃ (o1 : V) (J : Nat → V) (G : Heap), Owns H G [.own o1 lk.length 1 s.1.length ((flatL 0) s.1)] ∧ S' = ⟨hav [(0, .lit l1 aRoutes0.length (flatL m2 aRoutes0)), (3, o1), (12, .lit l1 aRoutes0.length (flatL m2 aRoutes0)), (13, .int .i64 (aRoutes0.length : Int)), (14, .int .i64 s.2)] J, G⟩) hk ⟨(.tl 0 []), _, _, (Owns.addTl hO lk.length ([] : List (List Int))), St.hav _ ⟨rfl, rfl, rfl, rfl, rfl, trivial⟩⟩ ?_
    rintro ⟨x1, x3⟩ _ y1 ⟨o1, J, G, hO, rfl⟩ hk hx1
    refine wpL_sq ?_
    refine wpL_rg ?_
    refine pBi ?_
    refine pE ?_
    refine gn ?_
    refine wpL_sq ?_
    refine wpL_cd (b := decide (x3 < (aRoutes0.length : Int))) (fun hb => ?_) (fun hb => ?_)
    · replace hk := ct hb hk
      refine wpL_sk ?_
      refine gn ?_
      refine wpL_sq ?_
      refine wpL_bl ?_
      refine wpL_sq ?_
      refine wpL_rg ?_
      obtain ⟨c4, hc4, hk⟩ := bs hk
      refine pX hc4 tE96 tZ68 ?_
      refine pLp (.agg [_, _, _, _, _, _, _, _]) (rd2 (lm := m2) (off := 0) hc4 tA68 tZ68) ?_
      refine pNew hO tZ68 t068 (fun b5 G hO => ?_)
      refine pSn (xs := [_, _, _, _, _, _, _, _]) [_, _, _, _, _, _, _, _] hO 0 tZ68 rfl (fun G hO => ?_)
      refine pE ?_
      refine gn ?_
      refine wpL_sq ?_
      refine wpL_rg ?_
      refine pA (.tl 0 []) ?_
      refine pE ?_
      refine gn ?_
      refine wpL_sq ?_
      refine wpL_sq ?_
      refine wpL_rg ?_
      refine pM (.lit _ _ _) ?_
      refine pLen tS96 ?_
      refine pM (.int _ _) ?_
      refine pE ?_
      refine gn ?_
      refine wpL_bl ?_
      refine wpL_loopO (F := f61_L2 aRoutes0 x3 c4) (fun s S' => ∃ (o6 : V) (o8 : V) (J : Nat → V) (G : Heap), Owns H G [.blk b5 (.cells 8 [.int .i64 c4.From, .int .i64 c4.To, .lit m2 c4.Steps.length ((flatL 0) c4.Steps), .lit m2 c4.Lies.length ((flatL 0) c4.Lies), .lit m2 c4.Crosses.length ((flatL 0) c4.Crosses), .lit m2 c4.Parts.length ((flatL 0) c4.Parts), .lit m2 c4.Over.length ((flatL 0) c4.Over), .lit m2 c4.Flanks.length ((flatL 0) c4.Flanks)]), .own o6 lk.length 1 s.1.length ((flatL 0) s.1), .own o8 lk.length 1 s.2.1.length ((flatL 0) s.2.1)] ∧ S' = ⟨hav [(0, .lit l1 aRoutes0.length (flatL m2 aRoutes0)), (3, o6), (5, .ptr b5 0), (6, o8), (12, .lit l1 aRoutes0.length (flatL m2 aRoutes0)), (13, .int .i64 (aRoutes0.length : Int)), (14, .int .i64 x3), (18, .lit l1 aRoutes0.length (flatL m2 aRoutes0)), (19, .int .i64 (aRoutes0.length : Int)), (20, .int .i64 s.2.2)] J, G⟩) hk ⟨o1, (.tl 0 []), _, _, (Owns.pick (Owns.addTl hO lk.length ([] : List Int)) [1, 2, 0] (by decide) rfl), St.hav _ ⟨rfl, rfl, rfl, rfl, rfl, rfl, rfl, rfl, rfl, rfl, trivial⟩⟩ ?_
      rintro ⟨x6, x8, x10⟩ _ y2 ⟨o6, o8, J, G, hO, rfl⟩ hk hx2
      refine wpL_sq ?_
      refine wpL_rg ?_
      refine pBi ?_
      refine pE ?_
      refine gn ?_
      refine wpL_sq ?_
      refine wpL_cd (b := decide (x10 < (aRoutes0.length : Int))) (fun hb => ?_) (fun hb => ?_)
      · replace hk := ct hb hk
        refine wpL_sk ?_
        refine gn ?_
        refine wpL_sq ?_
        refine wpL_bl ?_
        refine wpL_sq ?_
        refine wpL_rg ?_
        obtain ⟨c11, hc11, hk⟩ := bs hk
        refine pX hc11 tE96 tZ68 ?_
        refine pLp (.agg [_, _, _, _, _, _, _, _]) (rd2 (lm := m2) (off := 0) hc11 tA68 tZ68) ?_
        refine pNew hO tZ68 t068 (fun b12 G hO => ?_)
        refine pSn (xs := [_, _, _, _, _, _, _, _]) [_, _, _, _, _, _, _, _] hO 0 tZ68 rfl (fun G hO => ?_)
        refine pE ?_
        refine gn ?_
        refine wpL_rg ?_
        refine pM o8 ?_
        refine pLs hO 1 [_, _, _, _, _, _, _, _] tA68 tZ68 ?_
        refine pLs hO 0 [_, _, _, _, _, _, _, _] tA68 tZ68 ?_
        obtain ⟨v13, hv13, hk⟩ := bs hk
        refine pCall (fun _ => f47_run hv13) ?_
        refine pBs (ps := [(0, (.int _ _))]) ([v13] : List Int) tE26 tZ3 t03 (emb_cons (embx_int _ _) (emb_nil)) ?_
        obtain ⟨z14, hz14, hk⟩ := bs hk
        refine pAp (xs := x8) hO 3 hz14 (bears_tl ([v13] : List Int)) tE26 tZ3 tB3 t03 tE26 rfl (fun o14 G hno14 hO => ?_)
        refine pA o14 ?_
        refine pE ?_
        refine bn (gn ?_)
        refine wpL_rg ?_
        refine pBi ?_
        refine pM (.int _ _) ?_
        refine pE ?_
        refine gn ?_
        cases hk; exact ⟨_, rfl, o6, o14, _, _, (Owns.pick hO [1, 2, 3] (by decide) rfl), St.hav _ ⟨rfl, rfl, rfl, rfl, rfl, rfl, rfl, rfl, rfl, rfl, trivial⟩⟩
      · replace hk := cf hb hk
        refine wpL_ex ?_
        refine ge (ge (be (gn ?_)))
        replace hk := lx hx2 hk
        refine wpL_rg ?_
        refine pM o6 ?_
        refine pM o8 ?_
        refine pBsG (x8 : List Int) hO (gv_own (xs := x8) 2) tE94 tZ26 t026 rfl (fun G hO => ?_)
        obtain ⟨z15, hz15, hk⟩ := bs hk
        refine pAp (xs := x6) hO 1 hz15 (bears_tl ([x8] : List (List Int))) tE94 tZ26 tB26 t026 tE94 rfl (fun o15 G hno15 hO => ?_)
        refine pA o15 ?_
        refine pE ?_
        refine bn (gn ?_)
        refine wpL_rg ?_
        refine pBi ?_
        refine pM (.int _ _) ?_
        refine pE ?_
        refine gn ?_
        cases hk; exact ⟨_, rfl, o15, _, _, (Owns.pick hO [1] (by decide) rfl), St.hav _ ⟨rfl, rfl, rfl, rfl, rfl, trivial⟩⟩
    · replace hk := cf hb hk
      refine wpL_ex ?_
      refine ge (ge (be (gn ?_)))
      replace hk := lx hx1 hk
      refine wpL_sq ?_
      refine wpL_rg ?_
      refine pM o1 ?_
      refine pA o1 ?_
      refine pE ?_
      refine gn ?_
      refine wpL_rt ?_
      replace hk := Option.some.inj hk; subst hk; exact finZ hO (fz_own (xs := x1) hlk 0) (resT o1 resN)
/-- impl.touch -/
def f160_L2 (aB1 : List Part) (x1 : Int) (c2 : Part) : Int → Option (Int ⊕ (Int ⊕ Bool)) := fun s =>
  (bif decide (s < (aB1.length : Int)) then ((getI aB1 s).bind fun c5 => (bif (((c2.Piece == c5.Piece) && decide (c2.From ≤ c5.To)) && decide (c5.From ≤ c2.To)) then (((some true).map Sum.inr).map Sum.inr) else some (.inl (w64 (s + (1:Int)))))) else ((some (.inl (w64 (x1 + (1:Int))))).map Sum.inr))
def f160_L1 (aA0 : List Part) (aB1 : List Part) : Int → Option (Int ⊕ Bool) := fun s =>
  (bif decide (s < (aA0.length : Int)) then ((getI aA0 s).bind fun c2 => (loopO (f160_L2 aB1 s c2) ((0:Int)))) else ((some false).map Sum.inr))
def f160 (aA0 : List Part) (aB1 : List Part) : Option Bool :=
  (loopO (f160_L1 aA0 aB1) ((0:Int)))
theorem f160_run {aA0 : List Part} {aB1 : List Part} {r : Bool} {l1 l2 : Nat} {H : Heap} {lk : Lk} (hk : f160 aA0 aB1 = some r) (hlk : 0 < lk.length := by simp) : runL Try.prog hh 160 [.lit l1 aA0.length ((flatL 0) aA0), .lit l2 aB1.length ((flatL 0) aB1)] H lk = some (.bool r, H) := by
  refine run_start Try.func160 rfl Try.ntmps160 Try.results160 rfl rfl fun hO => ?_
  unfold f160 at hk
  refine wpL_sq ?_
  refine wpL_rg ?_
  refine pA (.bool _) ?_
  refine pE ?_
  refine gn ?_
  refine wpL_sq ?_
  refine wpL_sq ?_
  refine wpL_rg ?_
  refine pM (.lit _ _ _) ?_
  refine pLen tS65 ?_
  refine pM (.int _ _) ?_
  refine pE ?_
  refine gn ?_
  refine wpL_bl ?_
  refine wpL_loopO (F := f160_L1 aA0 aB1) (fun s S' => ∃ (J : Nat → V) (G : Heap), Owns H G [] ∧ S' = ⟨hav [(1, .lit l2 aB1.length ((flatL 0) aB1)), (9, .lit l1 aA0.length ((flatL 0) aA0)), (10, .int .i64 (aA0.length : Int)), (11, .int .i64 s)] J, G⟩) hk ⟨_, _, hO, St.hav _ ⟨rfl, rfl, rfl, rfl, trivial⟩⟩ ?_
  rintro x1 _ y1 ⟨J, G, hO, rfl⟩ hk hx1
  refine wpL_sq ?_
  refine wpL_rg ?_
  refine pBi ?_
  refine pE ?_
  refine gn ?_
  refine wpL_sq ?_
  refine wpL_cd (b := decide (x1 < (aA0.length : Int))) (fun hb => ?_) (fun hb => ?_)
  · replace hk := ct hb hk
    refine wpL_sk ?_
    refine gn ?_
    refine wpL_sq ?_
    refine wpL_bl ?_
    refine wpL_sq ?_
    refine wpL_rg ?_
    obtain ⟨c2, hc2, hk⟩ := bs hk
    refine pX hc2 tE65 tZ271 ?_
    refine pLp (.agg [_, _, _]) (rd2 (lm := 0) (off := 0) hc2 tA271 tZ271) ?_
    refine pNew hO tZ271 t0271 (fun b3 G hO => ?_)
    refine pSt (xs := [_, _, _]) hO 0 tZ271 rfl (fun G hO => ?_)
    refine pE ?_
    refine gn ?_
    refine wpL_sq ?_
    refine wpL_rg ?_
    refine pM (.lit _ _ _) ?_
    refine pLen tS65 ?_
    refine pM (.int _ _) ?_
    refine pE ?_
    refine gn ?_
    refine wpL_bl ?_
    refine wpL_loopO (F := f160_L2 aB1 x1 c2) (fun s S' => ∃ (J : Nat → V) (G : Heap), Owns H G [.blk b3 (.cells 3 [.int .i64 c2.Piece, .int .i64 c2.From, .int .i64 c2.To])] ∧ S' = ⟨hav [(1, .lit l2 aB1.length ((flatL 0) aB1)), (6, .ptr b3 0), (9, .lit l1 aA0.length ((flatL 0) aA0)), (10, .int .i64 (aA0.length : Int)), (11, .int .i64 x1), (15, .lit l2 aB1.length ((flatL 0) aB1)), (16, .int .i64 (aB1.length : Int)), (17, .int .i64 s)] J, G⟩) hk ⟨_, _, hO, St.hav _ ⟨rfl, rfl, rfl, rfl, rfl, rfl, rfl, rfl, trivial⟩⟩ ?_
    rintro x4 _ y2 ⟨J, G, hO, rfl⟩ hk hx2
    refine wpL_sq ?_
    refine wpL_rg ?_
    refine pBi ?_
    refine pE ?_
    refine gn ?_
    refine wpL_sq ?_
    refine wpL_cd (b := decide (x4 < (aB1.length : Int))) (fun hb => ?_) (fun hb => ?_)
    · replace hk := ct hb hk
      refine wpL_sk ?_
      refine gn ?_
      refine wpL_sq ?_
      refine wpL_bl ?_
      refine wpL_sq ?_
      refine wpL_rg ?_
      obtain ⟨c5, hc5, hk⟩ := bs hk
      refine pX hc5 tE65 tZ271 ?_
      refine pLp (.agg [_, _, _]) (rd2 (lm := 0) (off := 0) hc5 tA271 tZ271) ?_
      refine pNew hO tZ271 t0271 (fun b6 G hO => ?_)
      refine pSt (xs := [_, _, _]) hO 0 tZ271 rfl (fun G hO => ?_)
      refine pE ?_
      refine gn ?_
      refine wpL_sq ?_
      refine wpL_rg ?_
      refine pF tF271_0 ?_
      refine pLo hO 1 (.int _ _) tA3 ?_
      refine pF tF271_0 ?_
      refine pLo hO 0 (.int _ _) tA3 ?_
      refine pBi ?_
      refine pM (.bool _) ?_
      refine wpR_mid (l1 := [_, _, _, _, _, _]) (fun S' => ∃ J, S' = ⟨hav [(1, .lit l2 aB1.length ((flatL 0) aB1)), (6, .ptr b3 0), (8, .ptr b6 0), (9, .lit l1 aA0.length ((flatL 0) aA0)), (10, .int .i64 (aA0.length : Int)), (11, .int .i64 x1), (15, .lit l2 aB1.length ((flatL 0) aB1)), (16, .int .i64 (aB1.length : Int)), (17, .int .i64 x4), (32, .bool ((c2.Piece == c5.Piece) && decide (c2.From ≤ c5.To)))] J, G⟩) ?_ ?_
      · refine bc (b := (c2.Piece == c5.Piece)) (fun hg1 => ?_) (fun hg1 => ?_)
        · refine pGy hg1 ?_
          refine pF tF271_1 ?_
          refine pGy hg1 ?_
          refine pLo hO 1 (.int _ _) tA3 ?_
          refine pGy hg1 ?_
          refine pF tF271_2 ?_
          refine pGy hg1 ?_
          refine pLo hO 0 (.int _ _) tA3 ?_
          refine pGy hg1 ?_
          refine pBi ?_
          refine pPt hg1 (.bool _) ?_
          exact pE ⟨_, St.hav _ ⟨rfl, rfl, rfl, rfl, rfl, rfl, rfl, rfl, rfl, by rw [hg1]; rfl, trivial⟩⟩
        · refine pGn hg1 ?_
          refine pGn hg1 ?_
          refine pGn hg1 ?_
          refine pGn hg1 ?_
          refine pGn hg1 ?_
          refine pPf hg1 (.bool _) ?_
          exact pE ⟨_, St.hav _ ⟨rfl, rfl, rfl, rfl, rfl, rfl, rfl, rfl, rfl, by rw [hg1]; rfl, trivial⟩⟩
      · rintro _ ⟨J, rfl⟩
        refine pM (.bool _) ?_
        refine wpR_mid (l1 := [_, _, _, _, _, _]) (fun S' => ∃ J, S' = ⟨hav [(1, .lit l2 aB1.length ((flatL 0) aB1)), (6, .ptr b3 0), (9, .lit l1 aA0.length ((flatL 0) aA0)), (10, .int .i64 (aA0.length : Int)), (11, .int .i64 x1), (15, .lit l2 aB1.length ((flatL 0) aB1)), (16, .int .i64 (aB1.length : Int)), (17, .int .i64 x4), (39, .bool (((c2.Piece == c5.Piece) && decide (c2.From ≤ c5.To)) && decide (c5.From ≤ c2.To)))] J, G⟩) ?_ ?_
        · refine bc (b := ((c2.Piece == c5.Piece) && decide (c2.From ≤ c5.To))) (fun hg1 => ?_) (fun hg1 => ?_)
          · refine pGy hg1 ?_
            refine pF tF271_1 ?_
            refine pGy hg1 ?_
            refine pLo hO 0 (.int _ _) tA3 ?_
            refine pGy hg1 ?_
            refine pF tF271_2 ?_
            refine pGy hg1 ?_
            refine pLo hO 1 (.int _ _) tA3 ?_
            refine pGy hg1 ?_
            refine pBi ?_
            refine pPt hg1 (.bool _) ?_
            exact pE ⟨_, St.hav _ ⟨rfl, rfl, rfl, rfl, rfl, rfl, rfl, rfl, by rw [hg1]; rfl, trivial⟩⟩
          · refine pGn hg1 ?_
            refine pGn hg1 ?_
            refine pGn hg1 ?_
            refine pGn hg1 ?_
            refine pGn hg1 ?_
            refine pPf hg1 (.bool _) ?_
            exact pE ⟨_, St.hav _ ⟨rfl, rfl, rfl, rfl, rfl, rfl, rfl, rfl, by rw [hg1]; rfl, trivial⟩⟩
        · rintro _ ⟨J, rfl⟩
          refine pE ?_
          refine gn ?_
          refine wpL_cd (b := (((c2.Piece == c5.Piece) && decide (c2.From ≤ c5.To)) && decide (c5.From ≤ c2.To))) (fun hb => ?_) (fun hb => ?_)
          · replace hk := ct hb hk
            refine wpL_sq ?_
            refine wpL_rg ?_
            refine pA (.bool _) ?_
            refine pE ?_
            refine gn ?_
            refine wpL_rt ?_
            refine br (gr (gr (br (br (gr (gr (br (gr ?_))))))))
            replace hk := lx hx2 hk
            replace hk := lx hx1 hk
            replace hk := Option.some.inj hk; subst hk; exact fin0 hO
          · replace hk := cf hb hk
            refine wpL_sk ?_
            refine bn (gn ?_)
            refine wpL_rg ?_
            refine pBi ?_
            refine pM (.int _ _) ?_
            refine pE ?_
            refine gn ?_
            cases hk; exact ⟨_, rfl, _, _, (Owns.pick hO [1] (by decide) rfl), St.hav _ ⟨rfl, rfl, rfl, rfl, rfl, rfl, rfl, rfl, trivial⟩⟩
    · replace hk := cf hb hk
      refine wpL_ex ?_
      refine ge (ge (be (bn (gn ?_))))
      replace hk := lx hx2 hk
      refine wpL_rg ?_
      refine pBi ?_
      refine pM (.int _ _) ?_
      refine pE ?_
      refine gn ?_
      cases hk; exact ⟨_, rfl, _, _, (Owns.pick hO [] (by decide) rfl), St.hav _ ⟨rfl, rfl, rfl, rfl, trivial⟩⟩
  · replace hk := cf hb hk
    refine wpL_ex ?_
    refine ge (ge (be (gn ?_)))
    replace hk := lx hx1 hk
    refine wpL_sq ?_
    refine wpL_rg ?_
    refine pA (.bool _) ?_
    refine pE ?_
    refine gn ?_
    refine wpL_rt ?_
    replace hk := Option.some.inj hk; subst hk; exact fin0 hO
/-- slices.Index[[]int,int] -/
def f260_L1 (aS0 : List Int) (aV1 : Int) : Int → Option (Int ⊕ Int) := fun s =>
  (bif decide (s < (aS0.length : Int)) then ((getI aS0 s).bind fun c2 => (bif (aV1 == c2) then ((some s).map Sum.inr) else some (.inl (w64 (s + (1:Int)))))) else ((some (-1:Int)).map Sum.inr))
def f260 (aS0 : List Int) (aV1 : Int) : Option Int :=
  (loopO (f260_L1 aS0 aV1) ((0:Int)))
theorem f260_run {aS0 : List Int} {aV1 : Int} {r : Int} {l1 : Nat} {H : Heap} {lk : Lk} (hk : f260 aS0 aV1 = some r) (hlk : 0 < lk.length := by simp) : runL Try.prog hh 260 [.lit l1 aS0.length ((flatL 0) aS0), .int .i64 aV1] H lk = some (.int .i64 r, H) := by
  refine run_start Try.func260 rfl Try.ntmps260 Try.results260 rfl rfl fun hO => ?_
  unfold f260 at hk
  refine wpL_sq ?_
  refine wpL_rg ?_
  refine pA (.int _ _) ?_
  refine pE ?_
  refine gn ?_
  refine wpL_sq ?_
  refine wpL_sq ?_
  refine wpL_rg ?_
  refine pM (.lit _ _ _) ?_
  refine pLen tS26 ?_
  refine pM (.int _ _) ?_
  refine pE ?_
  refine gn ?_
  refine wpL_bl ?_
  refine wpL_loopO (F := f260_L1 aS0 aV1) (fun s S' => ∃ (J : Nat → V) (G : Heap), Owns H G [] ∧ S' = ⟨hav [(0, .lit l1 aS0.length ((flatL 0) aS0)), (1, .int .i64 aV1), (7, .int .i64 (aS0.length : Int)), (8, .int .i64 s)] J, G⟩) hk ⟨_, _, hO, St.hav _ ⟨rfl, rfl, rfl, rfl, trivial⟩⟩ ?_
  rintro x1 _ y1 ⟨J, G, hO, rfl⟩ hk hx1
  refine wpL_sq ?_
  refine wpL_rg ?_
  refine pBi ?_
  refine pE ?_
  refine gn ?_
  refine wpL_sq ?_
  refine wpL_cd (b := decide (x1 < (aS0.length : Int))) (fun hb => ?_) (fun hb => ?_)
  · replace hk := ct hb hk
    refine wpL_sk ?_
    refine gn ?_
    refine wpL_sq ?_
    refine wpL_bl ?_
    refine wpL_sq ?_
    refine wpL_rg ?_
    refine pM (.int _ _) ?_
    refine pA (.int _ _) ?_
    refine pE ?_
    refine gn ?_
    refine wpL_sq ?_
    refine wpL_rg ?_
    refine pM (.int _ _) ?_
    refine pM (.lit _ _ _) ?_
    refine pM (.int _ _) ?_
    obtain ⟨c2, hc2, hk⟩ := bs hk
    refine pX hc2 tE26 tZ3 ?_
    refine pLp (.int _ _) (rd1 (lm := 0) (off := 0) hc2 tA3) ?_
    refine pBi ?_
    refine pE ?_
    refine gn ?_
    refine wpL_cd (b := (aV1 == c2)) (fun hb => ?_) (fun hb => ?_)
    · replace hk := ct hb hk
      refine wpL_sq ?_
      refine wpL_rg ?_
      refine pM (.int _ _) ?_
      refine pA (.int _ _) ?_
      refine pE ?_
      refine gn ?_
      refine wpL_rt ?_
      refine br (gr (gr (br (gr ?_))))
      replace hk := lx hx1 hk
      replace hk := Option.some.inj hk; subst hk; exact fin0 hO
    · replace hk := cf hb hk
      refine wpL_sk ?_
      refine bn (gn ?_)
      refine wpL_rg ?_
      refine pBi ?_
      refine pM (.int _ _) ?_
      refine pE ?_
      refine gn ?_
      cases hk; exact ⟨_, rfl, _, _, hO, St.hav _ ⟨rfl, rfl, rfl, rfl, trivial⟩⟩
  · replace hk := cf hb hk
    refine wpL_ex ?_
    refine ge (ge (be (gn ?_)))
    replace hk := lx hx1 hk
    refine wpL_sq ?_
    refine wpL_rg ?_
    refine pA (.int _ _) ?_
    refine pE ?_
    refine gn ?_
    refine wpL_rt ?_
    replace hk := Option.some.inj hk; subst hk; exact fin0 hO
/-- slices.Contains[[]int,int] -/
def f161 (aS0 : List Int) (aV1 : Int) : Option Bool :=
  ((f260 aS0 aV1).bind fun v1 => some (decide (v1 ≥ (0:Int))))
theorem f161_run {aS0 : List Int} {aV1 : Int} {r : Bool} {l1 : Nat} {H : Heap} {lk : Lk} (hk : f161 aS0 aV1 = some r) (hlk : 0 < lk.length := by simp) : runL Try.prog hh 161 [.lit l1 aS0.length ((flatL 0) aS0), .int .i64 aV1] H lk = some (.bool r, H) := by
  refine run_start Try.func161 rfl Try.ntmps161 Try.results161 rfl rfl fun hO => ?_
  unfold f161 at hk
  refine wpL_sq ?_
  refine wpL_rg ?_
  refine pA (.bool _) ?_
  refine pE ?_
  refine gn ?_
  refine wpL_sq ?_
  refine wpL_rg ?_
  refine pM (.lit _ _ _) ?_
  refine pM (.int _ _) ?_
  obtain ⟨v1, hv1, hk⟩ := bs hk
  refine pCall (fun _ => f260_run hv1) ?_
  refine pBi ?_
  refine pA (.bool _) ?_
  refine pE ?_
  refine gn ?_
  refine wpL_rt ?_
  replace hk := Option.some.inj hk; subst hk; exact fin0 hO
/-- impl.Lie] -/
def f323_L1 (aS0 : List Lie) (aV1 : Lie) : Int → Option (Int ⊕ Int) := fun s =>
  (bif decide (s < (aS0.length : Int)) then ((getI aS0 s).bind fun c3 => (bif ((aV1.Joint == c3.Joint) && ((aV1.Lie == c3.Lie) && true)) then ((some s).map Sum.inr) else some (.inl (w64 (s + (1:Int)))))) else ((some (-1:Int)).map Sum.inr))
def f323 (aS0 : List Lie) (aV1 : Lie) : Option Int :=
  (loopO (f323_L1 aS0 aV1) ((0:Int)))
theorem f323_run {aS0 : List Lie} {aV1 : Lie} {r : Int} {l1 : Nat} {H : Heap} {lk : Lk} (hk : f323 aS0 aV1 = some r) (hlk : 0 < lk.length := by simp) : runL Try.prog hh 323 [.lit l1 aS0.length ((flatL 0) aS0), .agg [.int .i64 aV1.Joint, .int .i64 aV1.Lie]] H lk = some (.int .i64 r, H) := by
  refine run_start Try.func323 rfl Try.ntmps323 Try.results323 rfl rfl fun hO => ?_
  unfold f323 at hk
  refine wpL_sq ?_
  refine wpL_rg ?_
  refine pBox (cs := [_, _]) hO tZ206 (fun b1 G hO => ?_)
  refine pA (.int _ _) ?_
  refine pE ?_
  refine gn ?_
  refine wpL_sq ?_
  refine wpL_sq ?_
  refine wpL_rg ?_
  refine pM (.lit _ _ _) ?_
  refine pLen tS64 ?_
  refine pM (.int _ _) ?_
  refine pE ?_
  refine gn ?_
  refine wpL_bl ?_
  refine wpL_loopO (F := f323_L1 aS0 aV1) (fun s S' => ∃ (J : Nat → V) (G : Heap), Owns H G [.blk b1 (.cells 2 [.int .i64 aV1.Joint, .int .i64 aV1.Lie])] ∧ S' = ⟨hav [(0, .lit l1 aS0.length ((flatL 0) aS0)), (3, .ptr b1 0), (7, .int .i64 (aS0.length : Int)), (8, .int .i64 s)] J, G⟩) hk ⟨_, _, hO, St.hav _ ⟨rfl, rfl, rfl, rfl, trivial⟩⟩ ?_
  rintro x2 _ y1 ⟨J, G, hO, rfl⟩ hk hx1
  refine wpL_sq ?_
  refine wpL_rg ?_
  refine pBi ?_
  refine pE ?_
  refine gn ?_
  refine wpL_sq ?_
  refine wpL_cd (b := decide (x2 < (aS0.length : Int))) (fun hb => ?_) (fun hb => ?_)
  · replace hk := ct hb hk
    refine wpL_sk ?_
    refine gn ?_
    refine wpL_sq ?_
    refine wpL_bl ?_
    refine wpL_sq ?_
    refine wpL_rg ?_
    refine pM (.int _ _) ?_
    refine pA (.int _ _) ?_
    refine pE ?_
    refine gn ?_
    refine wpL_sq ?_
    refine wpL_drw [(0, true), (1, true), (2, true), (3, true), (4, true), (5, false)] [_, _, _, _, _, _] (by decide +kernel) (by rfl) ?_
    refine pLs hO 0 [_, _] tA206 tZ206 ?_
    refine pM (.lit _ _ _) ?_
    refine pM (.int _ _) ?_
    obtain ⟨c3, hc3, hk⟩ := bs hk
    refine pX hc3 tE64 tZ206 ?_
    refine pLp (.agg [_, _]) (rd2 (lm := 0) (off := 0) hc3 tA206 tZ206) ?_
    refine pGq tG206 (eqc (eqi _ _ _) (eqc (eqi _ _ _) (rfl))) ?_
    refine pE ?_
    refine gn ?_
    refine wpL_cd (b := ((aV1.Joint == c3.Joint) && ((aV1.Lie == c3.Lie) && true))) (fun hb => ?_) (fun hb => ?_)
    · replace hk := ct hb hk
      refine wpL_sq ?_
      refine wpL_rg ?_
      refine pM (.int _ _) ?_
      refine pA (.int _ _) ?_
      refine pE ?_
      refine gn ?_
      refine wpL_rt ?_
      refine br (gr (gr (br (gr ?_))))
      replace hk := lx hx1 hk
      replace hk := Option.some.inj hk; subst hk; exact fin0 hO
    · replace hk := cf hb hk
      refine wpL_sk ?_
      refine bn (gn ?_)
      refine wpL_rg ?_
      refine pBi ?_
      refine pM (.int _ _) ?_
      refine pE ?_
      refine gn ?_
      cases hk; exact ⟨_, rfl, _, _, hO, St.hav _ ⟨rfl, rfl, rfl, rfl, trivial⟩⟩
  · replace hk := cf hb hk
    refine wpL_ex ?_
    refine ge (ge (be (gn ?_)))
    replace hk := lx hx1 hk
    refine wpL_sq ?_
    refine wpL_rg ?_
    refine pA (.int _ _) ?_
    refine pE ?_
    refine gn ?_
    refine wpL_rt ?_
    replace hk := Option.some.inj hk; subst hk; exact fin0 hO
/-- impl.Lie] -/
def f262 (aS0 : List Lie) (aV1 : Lie) : Option Bool :=
  ((f323 aS0 aV1).bind fun v2 => some (decide (v2 ≥ (0:Int))))
theorem f262_run {aS0 : List Lie} {aV1 : Lie} {r : Bool} {l1 : Nat} {H : Heap} {lk : Lk} (hk : f262 aS0 aV1 = some r) (hlk : 0 < lk.length := by simp) : runL Try.prog hh 262 [.lit l1 aS0.length ((flatL 0) aS0), .agg [.int .i64 aV1.Joint, .int .i64 aV1.Lie]] H lk = some (.bool r, H) := by
  refine run_start Try.func262 rfl Try.ntmps262 Try.results262 rfl rfl fun hO => ?_
  unfold f262 at hk
  refine wpL_sq ?_
  refine wpL_rg ?_
  refine pBox (cs := [_, _]) hO tZ206 (fun b1 G hO => ?_)
  refine pA (.bool _) ?_
  refine pE ?_
  refine gn ?_
  refine wpL_sq ?_
  refine wpL_rg ?_
  refine pM (.lit _ _ _) ?_
  refine pLs hO 0 [_, _] tA206 tZ206 ?_
  obtain ⟨v2, hv2, hk⟩ := bs hk
  refine pCall (fun _ => f323_run hv2) ?_
  refine pBi ?_
  refine pA (.bool _) ?_
  refine pE ?_
  refine gn ?_
  refine wpL_rt ?_
  replace hk := Option.some.inj hk; subst hk; exact fin0 hO
/-- impl.Needs$1 -/
def f261 (aL0 : Lie) (aA1 : List Lie) : Option (List Lie) :=
  ((f262 aA1 aL0).bind fun v2 => (bif !v2 then ((appB 16 aA1 ([aL0] : List Lie)).bind fun z4 => some z4) else some aA1))
theorem f261_run {aL0 : Lie} {aA1 : List Lie} {r : (List Lie)} {q0 dd : Nat} {o0 : V} {H : Heap} {lk : Lk} (hk : f261 aL0 aA1 = some r) (hq0 : BoxAt H q0 o0 dd 2 aA1.length ((flatL 0) aA1)) (hS : ∀ b ∈ boxS q0 o0, unlocked lk b = true) (hdd : lk.length = dd + 1) : ∃ v H1, runL Try.prog hh 261 [.agg [.int .i64 aL0.Joint, .int .i64 aL0.Lie], .ptr q0 0] H lk = some (v, H1) ∧ v = .tup [] ∧ ∃ o, BoxOut H H1 q0 o0 o dd 2 r.length ((flatL 0) r) := by
  refine run_startR Try.func261 rfl Try.ntmps261 Try.results261 rfl rfl ?_
  have hO := box_start (d1 := lk.length) hq0
  have hFr := Sees.refl H (boxS q0 o0)
  have hlk : 0 < lk.length := by omega
  unfold f261 at hk
  refine wpL_sq ?_
  refine wpL_rg ?_
  refine pBox (cs := [_, _]) hO tZ206 (fun b1 G hO => ?_)
  refine pE ?_
  refine gn ?_
  refine wpL_sq ?_
  refine wpL_rg ?_
  refine pLr hO 1 o0 tA64 ?_
  refine pLs hO 0 [_, _] tA206 tZ206 ?_
  obtain ⟨v2, hv2, hk⟩ := bs hk
  obtain ⟨lw3, hw3⟩ := ld_fown hO 2 (lk.length + 1)
  refine pCall (vs := [o0, (.agg [_, _])]) (caps := []) (fun _ => f262_run hv2) ?_ (h3 := (la_cons (hw3 6) (la_cons rfl la_nil)))
  refine pU ?_
  refine pE ?_
  refine gn ?_
  refine wpL_cd (b := !v2) (fun hb => ?_) (fun hb => ?_)
  · replace hk := ct hb hk
    refine wpL_rg ?_
    refine pLr hO 1 o0 tA64 ?_
    refine pLs hO 0 [_, _] tA206 tZ206 ?_
    refine pBs (ps := [(0, (.agg [_, _]))]) ([aL0] : List Lie) tE64 tZ206 t0206 (emb_cons (embx_agg (α := Lie) aL0) (emb_nil)) ?_
    obtain ⟨z4, hz4, hk⟩ := bs hk
    refine pAr (xs := aA1) hO 2 hz4 (bears_tl ([aL0] : List Lie)) tE64 tZ206 tB206 t0206 tE64 hFr hS rfl (fun o4 H1 G hFr hO => ?_)
    have hc5 := fown_cells hO (j := 2) rfl
    refine pSr (xs := [_]) hO 1 tZ64 hFr hS rfl (gv_grow rfl (fown_cleanG hO (j := 2) rfl 1 Nat.one_pos)) (fun H1 G hFr hO => ?_) (h3 := hc5.1) (h6 := one_cell hc5.2)
    refine pE ?_
    replace hk := Option.some.inj hk; subst hk; exact finB hO 1 2 hFr (List.getElem?_eq_some_iff.1 hq0.1).1 hdd
  · replace hk := cf hb hk
    refine wpL_sk ?_
    replace hk := Option.some.inj hk; subst hk; exact finB hO 1 2 hFr (List.getElem?_eq_some_iff.1 hq0.1).1 hdd
/-- impl.Needs -/
def f162_k2 (x8 : Int) (x9 : List Lie) : Option (((List Lie) × Int) ⊕ (List Lie)) :=
  some (.inl (x9, w64 (x8 + (1:Int))))
def f162_L1 (aR0 : Route) : ((List Lie) × Int) → Option (((List Lie) × Int) ⊕ (List Lie)) := fun s =>
  (bif decide (s.2 < (aR0.Flanks.length : Int)) then ((getI aR0.Flanks s.2).bind fun c11 => (bif (c11.Kind == (3:Int)) then ((f261 ({ Joint := c11.Of, Lie := c11.Lie } : Lie) s.1).bind fun z13 => (f162_k2 s.2 z13)) else (f162_k2 s.2 s.1))) else ((some s.1).map Sum.inr))
def f162 (aR0 : Route) : Option (List Lie) :=
  ((appB 16 ([] : List Lie) aR0.Lies).bind fun z3 => (loopO (f162_L1 aR0) (z3, (0:Int))))
theorem f162_run {aR0 : Route} {r : (List Lie)} {l1 l2 l3 l4 l5 l6 : Nat} {H : Heap} {lk : Lk} (hk : f162 aR0 = some r) (hlk : 0 < lk.length := by simp) (hlo : LkOk lk H.length := by simp [LkOk]) : runL Try.prog hh 162 [.agg [.int .i64 aR0.From, .int .i64 aR0.To, .lit l1 aR0.Steps.length ((flatL 0) aR0.Steps), .lit l2 aR0.Lies.length ((flatL 0) aR0.Lies), .lit l3 aR0.Crosses.length ((flatL 0) aR0.Crosses), .lit l4 aR0.Parts.length ((flatL 0) aR0.Parts), .lit l5 aR0.Over.length ((flatL 0) aR0.Over), .lit l6 aR0.Flanks.length ((flatL 0) aR0.Flanks)]] H lk = some (.lit 0 r.length ((flatL 0) r), H) := by
  refine run_start Try.func162 rfl Try.ntmps162 Try.results162 rfl rfl fun hO => ?_
  unfold f162 at hk
  refine wpL_sq ?_
  refine wpL_rg ?_
  refine pBox (cs := [_, _, _, _, _, _, _, _]) hO tZ68 (fun b1 G hO => ?_)
  refine pA (.tl 0 []) ?_
  refine pE ?_
  refine gn ?_
  refine wpL_sq ?_
  refine wpL_rg ?_
  refine pNew hO tZ64 t064 (fun b2 G hO => ?_)
  refine pE ?_
  refine gn ?_
  refine wpL_sq ?_
  refine wpL_rg ?_
  refine pFn (vs := [_]) ?_
  refine pA (.fn _ _) ?_
  refine pE ?_
  refine gn ?_
  refine wpL_sq ?_
  refine wpL_rg ?_
  refine pLo hO 0 (.tl 0 []) tA64 ?_
  refine pF tF68_3 ?_
  refine pLo hO 1 (.lit _ _ _) tA64 ?_
  replace hO := Owns.addTl hO lk.length ([] : List Lie)
  obtain ⟨z3, hz3, hk⟩ := bs hk
  refine pAp (xs := ([] : List Lie)) hO 0 hz3 (bears_lit _ aR0.Lies) tE64 tZ206 tB206 t0206 tE64 rfl (fun o3 G hno3 hO => ?_)
  have hc5 := own_cells hO (j := 0) rfl
  refine pSt (xs := [_]) hO 1 tZ64 rfl (fun G hO => ?_) (h3 := hc5.1) (h6 := one_cell hc5.2)
  refine pE ?_
  refine gn ?_
  refine wpL_sq ?_
  refine wpL_sq ?_
  refine wpL_rg ?_
  refine pF tF68_7 ?_
  refine pLo hO 2 (.lit _ _ _) tA66 ?_
  refine pLen tS66 ?_
  refine pM (.int _ _) ?_
  refine pE ?_
  refine gn ?_
  refine wpL_bl ?_
  refine wpL_loopO (F := f162_L1 aR0) (fun s S' => ∃ (o6 : V) (J : Nat → V) (G : Heap), Owns H G [.own o6 lk.length 2 s.1.length ((flatL 0) s.1), .blk b2 (.cells 1 [o6])] ∧ S' = ⟨hav [(3, .ptr b2 0), (4, .fn 261 [.ptr b2 0]), (13, .lit l6 aR0.Flanks.length ((flatL 0) aR0.Flanks)), (14, .int .i64 (aR0.Flanks.length : Int)), (15, .int .i64 s.2)] J, G⟩) hk ⟨o3, _, _, (Owns.pick hO [0, 1] (by decide) rfl), St.hav _ ⟨rfl, rfl, rfl, rfl, rfl, trivial⟩⟩ ?_
  rintro ⟨x6, x8⟩ _ y1 ⟨o6, J, G, hO, rfl⟩ hk hx1
  refine wpL_sq ?_
  refine wpL_rg ?_
  refine pBi ?_
  refine pE ?_
  refine gn ?_
  refine wpL_sq ?_
  refine wpL_cd (b := decide (x8 < (aR0.Flanks.length : Int))) (fun hb => ?_) (fun hb => ?_)
  · replace hk := ct hb hk
    refine wpL_sk ?_
    refine gn ?_
    refine wpL_mid (fun S' => ∃ (x9 : List Lie) (o9 : V) (J : Nat → V) (G : Heap), f162_k2 x8 x9 = some y1 ∧ Owns H G [.own o9 lk.length 2 x9.length ((flatL 0) x9), .blk b2 (.cells 1 [o9])] ∧ S' = ⟨hav [(3, .ptr b2 0), (4, .fn 261 [.ptr b2 0]), (13, .lit l6 aR0.Flanks.length ((flatL 0) aR0.Flanks)), (14, .int .i64 (aR0.Flanks.length : Int)), (15, .int .i64 x8)] J, G⟩) ?_ ?_
    · refine wpL_bl ?_
      refine wpL_sq ?_
      refine wpL_rg ?_
      obtain ⟨c11, hc11, hk⟩ := bs hk
      refine pX hc11 tE66 tZ287 ?_
      refine pLp (.agg [_, _, _, _]) (rd2 (lm := 0) (off := 0) hc11 tA287 tZ287) ?_
      refine pNew hO tZ287 t0287 (fun b12 G hO => ?_)
      refine pSt (xs := [_, _, _, _]) hO 0 tZ287 rfl (fun G hO => ?_)
      refine pE ?_
      refine gn ?_
      refine wpL_sq ?_
      refine wpL_rg ?_
      refine pF tF287_1 ?_
      refine pLo hO 0 (.int _ _) tA3 ?_
      refine pBi ?_
      refine pE ?_
      refine gn ?_
      refine wpL_cd (b := (c11.Kind == (3:Int))) (fun hb => ?_) (fun hb => ?_)
      · replace hk := ct hb hk
        refine wpL_rg ?_
        refine pM (.fn _ _) ?_
        refine pF tF287_2 ?_
        refine pLo hO 0 (.int _ _) tA3 ?_
        refine pF tF287_3 ?_
        refine pLo hO 0 (.int _ _) tA3 ?_
        refine pBd [_, _] t0206 tP206 ?_
        obtain ⟨z13, hz13, hk⟩ := bs hk
        refine pCallB hO 2 1 hlo rfl (fun _ hS hB => f261_run hz13 hB hS (by simp)) (fun o13 G hO => ?_)
        refine pE ?_
        refine bn (gn ?_)
        exact ⟨z13, o13, _, _, hk, (Owns.pick hO [1, 2] (by decide) rfl), St.hav _ ⟨rfl, rfl, rfl, rfl, rfl, trivial⟩⟩
      · replace hk := cf hb hk
        refine wpL_sk ?_
        refine bn (gn ?_)
        exact ⟨x6, o6, _, _, hk, (Owns.pick hO [1, 2] (by decide) rfl), St.hav _ ⟨rfl, rfl, rfl, rfl, rfl, trivial⟩⟩
    · rintro _ ⟨x9, o9, J, G, hk, hO, rfl⟩
      refine wpL_rg ?_
      refine pBi ?_
      refine pM (.int _ _) ?_
      refine pE ?_
      refine gn ?_
      cases hk; exact ⟨_, rfl, o9, _, _, hO, St.hav _ ⟨rfl, rfl, rfl, rfl, rfl, trivial⟩⟩
  · replace hk := cf hb hk
    refine wpL_ex ?_
    refine ge (ge (be (gn ?_)))
    replace hk := lx hx1 hk
    refine wpL_sq ?_
    refine wpL_rg ?_
    refine pLo hO 1 o6 tA64 ?_
    refine pA o6 ?_
    refine pE ?_
    refine gn ?_
    refine wpL_rt ?_
    replace hk := Option.some.inj hk; subst hk; exact finZ hO (fz_own (xs := x6) hlk 0) (resT o6 resN)
/-- impl.Exclude -/
def f49_L3 (x8 : Int) (c9 : Lie) (v11 : (List Lie)) : Int → Option (Int ⊕ (Int ⊕ Int)) := fun s =>
  (bif decide (s < (v11.length : Int)) then ((getI v11 s).bind fun c13 => (bif ((c9.Joint == c13.Joint) && (c9.Lie != c13.Lie)) then (((some (3:Int)).map Sum.inr).map Sum.inr) else some (.inl (w64 (s + (1:Int)))))) else ((some (.inl (w64 (x8 + (1:Int))))).map Sum.inr))
def f49_L2 (aA0 : Route) (aB1 : Route) (v7 : (List Lie)) : Int → Option (Int ⊕ Int) := fun s =>
  (bif decide (s < (v7.length : Int)) then ((getI v7 s).bind fun c9 => ((f162 aB1).bind fun v11 => (loopO (f49_L3 s c9 v11) ((0:Int))))) else (((f160 aA0.Over aB1.Parts).bind fun v15 => ((bif v15 then some true else ((f160 aA0.Parts aB1.Over).bind fun v17 => some v17)).bind fun t16 => (bif t16 then some (4:Int) else some (0:Int)))).map Sum.inr))
def f49_L1 (aA0 : Route) (aB1 : Route) : Int → Option (Int ⊕ Int) := fun s =>
  (bif decide (s < (aA0.Crosses.length : Int)) then ((getI aA0.Crosses s).bind fun c5 => ((f161 aB1.Crosses c5).bind fun v6 => (bif v6 then ((some (2:Int)).map Sum.inr) else some (.inl (w64 (s + (1:Int))))))) else (((f162 aA0).bind fun v7 => (loopO (f49_L2 aA0 aB1 v7) ((0:Int)))).map Sum.inr))
def f49 (aA0 : Route) (aB1 : Route) : Option Int :=
  ((f160 aA0.Parts aB1.Parts).bind fun v3 => (bif v3 then some (1:Int) else (loopO (f49_L1 aA0 aB1) ((0:Int)))))
theorem f49_run {aA0 : Route} {aB1 : Route} {r : Int} {l1 l2 l3 l4 l5 l6 l7 l8 l9 l10 l11 l12 : Nat} {H : Heap} {lk : Lk} (hk : f49 aA0 aB1 = some r) (hlk : 0 < lk.length := by simp) (hlo : LkOk lk H.length := by simp [LkOk]) : runL Try.prog hh 49 [.agg [.int .i64 aA0.From, .int .i64 aA0.To, .lit l1 aA0.Steps.length ((flatL 0) aA0.Steps), .lit l2 aA0.Lies.length ((flatL 0) aA0.Lies), .lit l3 aA0.Crosses.length ((flatL 0) aA0.Crosses), .lit l4 aA0.Parts.length ((flatL 0) aA0.Parts), .lit l5 aA0.Over.length ((flatL 0) aA0.Over), .lit l6 aA0.Flanks.length ((flatL 0) aA0.Flanks)], .agg [.int .i64 aB1.From, .int .i64 aB1.To, .lit l7 aB1.Steps.length ((flatL 0) aB1.Steps), .lit l8 aB1.Lies.length ((flatL 0) aB1.Lies), .lit l9 aB1.Crosses.length ((flatL 0) aB1.Crosses), .lit l10 aB1.Parts.length ((flatL 0) aB1.Parts), .lit l11 aB1.Over.length ((flatL 0) aB1.Over), .lit l12 aB1.Flanks.length ((flatL 0) aB1.Flanks)]] H lk = some (.int .i64 r, H) := by
  refine run_start Try.func49 rfl Try.ntmps49 Try.results49 rfl rfl fun hO => ?_
  unfold f49 at hk
  refine wpL_sq ?_
  refine wpL_rg ?_
  refine pBox (cs := [_, _, _, _, _, _, _, _]) hO tZ68 (fun b1 G hO => ?_)
  refine pBox (cs := [_, _, _, _, _, _, _, _]) hO tZ68 (fun b2 G hO => ?_)
  refine pA (.int _ _) ?_
  refine pE ?_
  refine gn ?_
  refine wpL_sq ?_
  refine wpL_sq ?_
  refine wpL_rg ?_
  refine pF tF68_5 ?_
  refine pLo hO 1 (.lit _ _ _) tA65 ?_
  refine pF tF68_5 ?_
  refine pLo hO 0 (.lit _ _ _) tA65 ?_
  obtain ⟨v3, hv3, hk⟩ := bs hk
  refine pCall (fun _ => f160_run hv3) ?_
  refine pE ?_
  refine gn ?_
  refine wpL_cd (b := v3) (fun hb => ?_) (fun hb => ?_)
  · replace hk := ct hb hk
    refine wpL_sq ?_
    refine wpL_rg ?_
    refine pA (.int _ _) ?_
    refine pE ?_
    refine gn ?_
    refine wpL_rt ?_
    refine gr ?_
    replace hk := Option.some.inj hk; subst hk; exact fin0 hO
  · replace hk := cf hb hk
    refine wpL_sk ?_
    refine gn ?_
    refine wpL_sq ?_
    refine wpL_sq ?_
    refine wpL_rg ?_
    refine pF tF68_4 ?_
    refine pLo hO 1 (.lit _ _ _) tA26 ?_
    refine pLen tS26 ?_
    refine pM (.int _ _) ?_
    refine pE ?_
    refine gn ?_
    refine wpL_bl ?_
    refine wpL_loopO (F := f49_L1 aA0 aB1) (fun s S' => ∃ (J : Nat → V) (G : Heap), Owns H G [.blk b2 (.cells 8 [.int .i64 aB1.From, .int .i64 aB1.To, .lit l7 aB1.Steps.length ((flatL 0) aB1.Steps), .lit l8 aB1.Lies.length ((flatL 0) aB1.Lies), .lit l9 aB1.Crosses.length ((flatL 0) aB1.Crosses), .lit l10 aB1.Parts.length ((flatL 0) aB1.Parts), .lit l11 aB1.Over.length ((flatL 0) aB1.Over), .lit l12 aB1.Flanks.length ((flatL 0) aB1.Flanks)]), .blk b1 (.cells 8 [.int .i64 aA0.From, .int .i64 aA0.To, .lit l1 aA0.Steps.length ((flatL 0) aA0.Steps), .lit l2 aA0.Lies.length ((flatL 0) aA0.Lies), .lit l3 aA0.Crosses.length ((flatL 0) aA0.Crosses), .lit l4 aA0.Parts.length ((flatL 0) aA0.Parts), .lit l5 aA0.Over.length ((flatL 0) aA0.Over), .lit l6 aA0.Flanks.length ((flatL 0) aA0.Flanks)])] ∧ S' = ⟨hav [(2, .ptr b1 0), (3, .ptr b2 0), (17, .lit l3 aA0.Crosses.length ((flatL 0) aA0.Crosses)), (18, .int .i64 (aA0.Crosses.length : Int)), (19, .int .i64 s)] J, G⟩) hk ⟨_, _, hO, St.hav _ ⟨rfl, rfl, rfl, rfl, rfl, trivial⟩⟩ ?_
    rintro x4 _ y1 ⟨J, G, hO, rfl⟩ hk hx1
    refine wpL_sq ?_
    refine wpL_rg ?_
    refine pBi ?_
    refine pE ?_
    refine gn ?_
    refine wpL_sq ?_
    refine wpL_cd (b := decide (x4 < (aA0.Crosses.length : Int))) (fun hb => ?_) (fun hb => ?_)
    · replace hk := ct hb hk
      refine wpL_sk ?_
      refine gn ?_
      refine wpL_sq ?_
      refine wpL_bl ?_
      refine wpL_sq ?_
      refine wpL_rg ?_
      obtain ⟨c5, hc5, hk⟩ := bs hk
      refine pX hc5 tE26 tZ3 ?_
      refine pLp (.int _ _) (rd1 (lm := 0) (off := 0) hc5 tA3) ?_
      refine pA (.int _ _) ?_
      refine pE ?_
      refine gn ?_
      refine wpL_sq ?_
      refine wpL_rg ?_
      refine pF tF68_4 ?_
      refine pLo hO 0 (.lit _ _ _) tA26 ?_
      refine pM (.int _ _) ?_
      obtain ⟨v6, hv6, hk⟩ := bs hk
      refine pCall (fun _ => f161_run hv6) ?_
      refine pE ?_
      refine gn ?_
      refine wpL_cd (b := v6) (fun hb => ?_) (fun hb => ?_)
      · replace hk := ct hb hk
        refine wpL_sq ?_
        refine wpL_rg ?_
        refine pA (.int _ _) ?_
        refine pE ?_
        refine gn ?_
        refine wpL_rt ?_
        refine br (gr (gr (br (gr ?_))))
        replace hk := lx hx1 hk
        replace hk := Option.some.inj hk; subst hk; exact fin0 hO
      · replace hk := cf hb hk
        refine wpL_sk ?_
        refine bn (gn ?_)
        refine wpL_rg ?_
        refine pBi ?_
        refine pM (.int _ _) ?_
        refine pE ?_
        refine gn ?_
        cases hk; exact ⟨_, rfl, _, _, hO, St.hav _ ⟨rfl, rfl, rfl, rfl, rfl, trivial⟩⟩
    · replace hk := cf hb hk
      refine wpL_ex ?_
      refine ge (ge (be (gn ?_)))
      replace hk := lx hx1 hk
      refine wpL_sq ?_
      refine wpL_sq ?_
      refine wpL_rg ?_
      refine pLs hO 1 [_, _, _, _, _, _, _, _] tA68 tZ68 ?_
      obtain ⟨v7, hv7, hk⟩ := bs hk
      refine pCallL hO hlo rfl (fun _ hl => f162_run hv7 (hlo := hl)) ?_
      refine pLen tS64 ?_
      refine pM (.int _ _) ?_
      refine pE ?_
      refine gn ?_
      refine wpL_bl ?_
      refine wpL_loopO (F := f49_L2 aA0 aB1 v7) (fun s S' => ∃ (J : Nat → V) (G : Heap), Owns H G [.blk b2 (.cells 8 [.int .i64 aB1.From, .int .i64 aB1.To, .lit l7 aB1.Steps.length ((flatL 0) aB1.Steps), .lit l8 aB1.Lies.length ((flatL 0) aB1.Lies), .lit l9 aB1.Crosses.length ((flatL 0) aB1.Crosses), .lit l10 aB1.Parts.length ((flatL 0) aB1.Parts), .lit l11 aB1.Over.length ((flatL 0) aB1.Over), .lit l12 aB1.Flanks.length ((flatL 0) aB1.Flanks)]), .blk b1 (.cells 8 [.int .i64 aA0.From, .int .i64 aA0.To, .lit l1 aA0.Steps.length ((flatL 0) aA0.Steps), .lit l2 aA0.Lies.length ((flatL 0) aA0.Lies), .lit l3 aA0.Crosses.length ((flatL 0) aA0.Crosses), .lit l4 aA0.Parts.length ((flatL 0) aA0.Parts), .lit l5 aA0.Over.length ((flatL 0) aA0.Over), .lit l6 aA0.Flanks.length ((flatL 0) aA0.Flanks)])] ∧ S' = ⟨hav [(2, .ptr b1 0), (3, .ptr b2 0), (29, .lit 0 v7.length ((flatL 0) v7)), (30, .int .i64 (v7.length : Int)), (31, .int .i64 s)] J, G⟩) hk ⟨_, _, hO, St.hav _ ⟨rfl, rfl, rfl, rfl, rfl, trivial⟩⟩ ?_
      rintro x8 _ y1 ⟨J, G, hO, rfl⟩ hk hx1
      refine wpL_sq ?_
      refine wpL_rg ?_
      refine pBi ?_
      refine pE ?_
      refine gn ?_
      refine wpL_sq ?_
      refine wpL_cd (b := decide (x8 < (v7.length : Int))) (fun hb => ?_) (fun hb => ?_)
      · replace hk := ct hb hk
        refine wpL_sk ?_
        refine gn ?_
        refine wpL_sq ?_
        refine wpL_bl ?_
        refine wpL_sq ?_
        refine wpL_rg ?_
        obtain ⟨c9, hc9, hk⟩ := bs hk
        refine pX hc9 tE64 tZ206 ?_
        refine pLp (.agg [_, _]) (rd2 (lm := 0) (off := 0) hc9 tA206 tZ206) ?_
        refine pNew hO tZ206 t0206 (fun b10 G hO => ?_)
        refine pSt (xs := [_, _]) hO 0 tZ206 rfl (fun G hO => ?_)
        refine pE ?_
        refine gn ?_
        refine wpL_sq ?_
        refine wpL_rg ?_
        refine pLs hO 1 [_, _, _, _, _, _, _, _] tA68 tZ68 ?_
        obtain ⟨v11, hv11, hk⟩ := bs hk
        refine pCallL hO hlo rfl (fun _ hl => f162_run hv11 (hlo := hl)) ?_
        refine pLen tS64 ?_
        refine pM (.int _ _) ?_
        refine pE ?_
        refine gn ?_
        refine wpL_bl ?_
        refine wpL_loopO (F := f49_L3 x8 c9 v11) (fun s S' => ∃ (J : Nat → V) (G : Heap), Owns H G [.blk b10 (.cells 2 [.int .i64 c9.Joint, .int .i64 c9.Lie]), .blk b2 (.cells 8 [.int .i64 aB1.From, .int .i64 aB1.To, .lit l7 aB1.Steps.length ((flatL 0) aB1.Steps), .lit l8 aB1.Lies.length ((flatL 0) aB1.Lies), .lit l9 aB1.Crosses.length ((flatL 0) aB1.Crosses), .lit l10 aB1.Parts.length ((flatL 0) aB1.Parts), .lit l11 aB1.Over.length ((flatL 0) aB1.Over), .lit l12 aB1.Flanks.length ((flatL 0) aB1.Flanks)]), .blk b1 (.cells 8 [.int .i64 aA0.From, .int .i64 aA0.To, .lit l1 aA0.Steps.length ((flatL 0) aA0.Steps), .lit l2 aA0.Lies.length ((flatL 0) aA0.Lies), .lit l3 aA0.Crosses.length ((flatL 0) aA0.Crosses), .lit l4 aA0.Parts.length ((flatL 0) aA0.Parts), .lit l5 aA0.Over.length ((flatL 0) aA0.Over), .lit l6 aA0.Flanks.length ((flatL 0) aA0.Flanks)])] ∧ S' = ⟨hav [(2, .ptr b1 0), (3, .ptr b2 0), (8, .ptr b10 0), (29, .lit 0 v7.length ((flatL 0) v7)), (30, .int .i64 (v7.length : Int)), (31, .int .i64 x8), (36, .lit 0 v11.length ((flatL 0) v11)), (37, .int .i64 (v11.length : Int)), (38, .int .i64 s)] J, G⟩) hk ⟨_, _, hO, St.hav _ ⟨rfl, rfl, rfl, rfl, rfl, rfl, rfl, rfl, rfl, trivial⟩⟩ ?_
        rintro x12 _ y2 ⟨J, G, hO, rfl⟩ hk hx2
        refine wpL_sq ?_
        refine wpL_rg ?_
        refine pBi ?_
        refine pE ?_
        refine gn ?_
        refine wpL_sq ?_
        refine wpL_cd (b := decide (x12 < (v11.length : Int))) (fun hb => ?_) (fun hb => ?_)
        · replace hk := ct hb hk
          refine wpL_sk ?_
          refine gn ?_
          refine wpL_sq ?_
          refine wpL_bl ?_
          refine wpL_sq ?_
          refine wpL_rg ?_
          obtain ⟨c13, hc13, hk⟩ := bs hk
          refine pX hc13 tE64 tZ206 ?_
          refine pLp (.agg [_, _]) (rd2 (lm := 0) (off := 0) hc13 tA206 tZ206) ?_
          refine pNew hO tZ206 t0206 (fun b14 G hO => ?_)
          refine pSt (xs := [_, _]) hO 0 tZ206 rfl (fun G hO => ?_)
          refine pE ?_
          refine gn ?_
          refine wpL_sq ?_
          refine wpL_rg ?_
          refine pF tF206_0 ?_
          refine pLo hO 1 (.int _ _) tA3 ?_
          refine pF tF206_0 ?_
          refine pLo hO 0 (.int _ _) tA3 ?_
          refine pBi ?_
          refine pM (.bool _) ?_
          refine wpR_mid (l1 := [_, _, _, _, _, _]) (fun S' => ∃ J, S' = ⟨hav [(2, .ptr b1 0), (3, .ptr b2 0), (8, .ptr b10 0), (29, .lit 0 v7.length ((flatL 0) v7)), (30, .int .i64 (v7.length : Int)), (31, .int .i64 x8), (36, .lit 0 v11.length ((flatL 0) v11)), (37, .int .i64 (v11.length : Int)), (38, .int .i64 x12), (53, .bool ((c9.Joint == c13.Joint) && (c9.Lie != c13.Lie)))] J, G⟩) ?_ ?_
          · refine bc (b := (c9.Joint == c13.Joint)) (fun hg1 => ?_) (fun hg1 => ?_)
            · refine pGy hg1 ?_
              refine pF tF206_1 ?_
              refine pGy hg1 ?_
              refine pLo hO 1 (.int _ _) tA3 ?_
              refine pGy hg1 ?_
              refine pF tF206_1 ?_
              refine pGy hg1 ?_
              refine pLo hO 0 (.int _ _) tA3 ?_
              refine pGy hg1 ?_
              refine pBi ?_
              refine pPt hg1 (.bool _) ?_
              exact pE ⟨_, St.hav _ ⟨rfl, rfl, rfl, rfl, rfl, rfl, rfl, rfl, rfl, by rw [hg1]; rfl, trivial⟩⟩
            · refine pGn hg1 ?_
              refine pGn hg1 ?_
              refine pGn hg1 ?_
              refine pGn hg1 ?_
              refine pGn hg1 ?_
              refine pPf hg1 (.bool _) ?_
              exact pE ⟨_, St.hav _ ⟨rfl, rfl, rfl, rfl, rfl, rfl, rfl, rfl, rfl, by rw [hg1]; rfl, trivial⟩⟩
          · rintro _ ⟨J, rfl⟩
            refine pE ?_
            refine gn ?_
            refine wpL_cd (b := ((c9.Joint == c13.Joint) && (c9.Lie != c13.Lie))) (fun hb => ?_) (fun hb => ?_)
            · replace hk := ct hb hk
              refine wpL_sq ?_
              refine wpL_rg ?_
              refine pA (.int _ _) ?_
              refine pE ?_
              refine gn ?_
              refine wpL_rt ?_
              refine br (gr (gr (br (br (gr (gr (br (gr ?_))))))))
              replace hk := lx hx2 hk
              replace hk := lx hx1 hk
              replace hk := Option.some.inj hk; subst hk; exact fin0 hO
            · replace hk := cf hb hk
              refine wpL_sk ?_
              refine bn (gn ?_)
              refine wpL_rg ?_
              refine pBi ?_
              refine pM (.int _ _) ?_
              refine pE ?_
              refine gn ?_
              cases hk; exact ⟨_, rfl, _, _, (Owns.pick hO [1, 2, 3] (by decide) rfl), St.hav _ ⟨rfl, rfl, rfl, rfl, rfl, rfl, rfl, rfl, rfl, trivial⟩⟩
        · replace hk := cf hb hk
          refine wpL_ex ?_
          refine ge (ge (be (bn (gn ?_))))
          replace hk := lx hx2 hk
          refine wpL_rg ?_
          refine pBi ?_
          refine pM (.int _ _) ?_
          refine pE ?_
          refine gn ?_
          cases hk; exact ⟨_, rfl, _, _, (Owns.pick hO [1, 2] (by decide) rfl), St.hav _ ⟨rfl, rfl, rfl, rfl, rfl, trivial⟩⟩
      · replace hk := cf hb hk
        refine wpL_ex ?_
        refine ge (ge (be (gn ?_)))
        replace hk := lx hx1 hk
        refine wpL_sq ?_
        refine wpL_sq ?_
        refine wpL_rg ?_
        refine pF tF68_6 ?_
        refine pLo hO 1 (.lit _ _ _) tA65 ?_
        refine pF tF68_5 ?_
        refine pLo hO 0 (.lit _ _ _) tA65 ?_
        obtain ⟨v15, hv15, hk⟩ := bs hk
        refine pCall (fun _ => f160_run hv15) ?_
        refine pM (.bool _) ?_
        obtain ⟨t16, ht, hk⟩ := bs hk
        refine wpR_mid (l1 := [_, _, _, _, _, _]) (fun S' => ∃ J, S' = ⟨hav [(67, .bool t16)] J, G⟩) ?_ ?_
        · refine bc (b := v15) (fun hg1 => ?_) (fun hg1 => ?_)
          · replace hk := ct hg1 ht
            refine pGn hg1 ?_
            refine pGn hg1 ?_
            refine pGn hg1 ?_
            refine pGn hg1 ?_
            refine pGn hg1 ?_
            refine pPt hg1 (.bool _) ?_
            cases hk; exact pE ⟨_, St.hav _ ⟨rfl, trivial⟩⟩
          · replace hk := cf hg1 ht
            refine pGy hg1 ?_
            refine pF tF68_5 ?_
            refine pGy hg1 ?_
            refine pLo hO 1 (.lit _ _ _) tA65 ?_
            refine pGy hg1 ?_
            refine pF tF68_6 ?_
            refine pGy hg1 ?_
            refine pLo hO 0 (.lit _ _ _) tA65 ?_
            refine pGy hg1 ?_
            obtain ⟨v17, hv17, hk⟩ := bs hk
            refine pCall (fun _ => f160_run hv17) ?_
            refine pPf hg1 (.bool _) ?_
            cases hk; exact pE ⟨_, St.hav _ ⟨rfl, trivial⟩⟩
        · rintro _ ⟨J, rfl⟩
          refine pE ?_
          refine gn ?_
          refine wpL_cd (b := t16) (fun hb => ?_) (fun hb => ?_)
          · replace hk := ct hb hk
            refine wpL_sq ?_
            refine wpL_rg ?_
            refine pA (.int _ _) ?_
            refine pE ?_
            refine gn ?_
            refine wpL_rt ?_
            refine gr ?_
            replace hk := Option.some.inj hk; subst hk; exact fin0 hO
          · replace hk := cf hb hk
            refine wpL_sk ?_
            refine gn ?_
            refine wpL_sq ?_
            refine wpL_rg ?_
            refine pA (.int _ _) ?_
            refine pE ?_
            refine gn ?_
            refine wpL_rt ?_
            replace hk := Option.some.inj hk; subst hk; exact fin0 hO
/-- impl.Table -/
def f63_L2 (aRoutes0 : List Route) (x3 : Int) (c4 : Route) : ((List (List Int)) × (List Int) × Int) → Option (((List (List Int)) × (List Int) × Int) ⊕ (((List (List Int)) × Int) ⊕ (List (List Int)))) := fun s =>
  (bif decide (s.2.2 < (aRoutes0.length : Int)) then ((getI aRoutes0 s.2.2).bind fun c11 => ((f49 c4 c11).bind fun v13 => ((appB 8 s.2.1 ([v13] : List Int)).bind fun z14 => some (.inl (s.1, z14, w64 (s.2.2 + (1:Int))))))) else (((appB 24 s.1 [s.2.1]).bind fun z17 => some (.inl (z17, w64 (x3 + (1:Int))))).map Sum.inr))
def f63_L1 (aRoutes0 : List Route) : ((List (List Int)) × Int) → Option (((List (List Int)) × Int) ⊕ (List (List Int))) := fun s =>
  (bif decide (s.2 < (aRoutes0.length : Int)) then ((getI aRoutes0 s.2).bind fun c4 => (loopO (f63_L2 aRoutes0 s.2 c4) (s.1, ([] : List Int), (0:Int)))) else ((some s.1).map Sum.inr))
def f63 (aRoutes0 : List Route) : Option (List (List Int)) :=
  (bif decide ((aRoutes0.length : Int) > (300:Int)) then some ([] : List (List Int)) else (loopO (f63_L1 aRoutes0) (([] : List (List Int)), (0:Int))))
theorem f63_run {aRoutes0 : List Route} {r : (List (List Int))} {l1 m2 : Nat} {H : Heap} {lk : Lk} (hk : f63 aRoutes0 = some r) (hlk : 0 < lk.length := by simp) (hlo : LkOk lk H.length := by simp [LkOk]) : ∃ v H1, runL Try.prog hh 63 [.lit l1 aRoutes0.length (flatL m2 aRoutes0)] H lk = some (v, H1) ∧ FreshL H r v H1 := by
  refine run_startR Try.func63 rfl Try.ntmps63 Try.results63 rfl rfl ?_
  have hO := Owns.nil H
  unfold f63 at hk
  refine wpL_sq ?_
  refine wpL_rg ?_
  refine pA (.tl 0 []) ?_
  refine pE ?_
  refine gn ?_
  refine wpL_sq ?_
  refine wpL_sq ?_
  refine wpL_rg ?_
  refine pM (.lit _ _ _) ?_
  refine pLen tS96 ?_
  refine pBi ?_
  refine pE ?_
  refine gn ?_
  refine wpL_cd (b := decide ((aRoutes0.length : Int) > (300:Int))) (fun hb => ?_) (fun hb => ?_)
  · replace hk := ct hb hk
    refine wpL_sq ?_
    refine wpL_rg ?_
    refine pA (.tl 0 []) ?_
    refine pE ?_
    refine gn ?_
    refine wpL_rt ?_
    refine gr ?_
    replace hk := Option.some.inj hk; subst hk; exact finThL hO (th_nil (List Int)) (resT (.tl 0 []) resN)
  · replace hk := cf hb hk
    refine wpL_sk ?_
    refine gn ?_
    refine wpL_sq ?_
    refine wpL_rg ?_
    refine pA (.tl 0 []) ?_
    refine pE ?_
    refine gn ?_
    refine wpL_sq ?_
    refine wpL_sq ?_
    refine wpL_rg ?_
    refine pM (.lit _ _ _) ?_
    refine pLen tS96 ?_
    refine pM (.int _ _) ?_
    refine pE ?_
    refine gn ?_
    refine wpL_bl ?_
    refine wpL_loopO (F := f63_L1 aRoutes0) (fun s S' => ∃ (o1 : V) (F2 : List Nat) (J : Nat → V) (G : Heap), Owns H G [Ap H lk.length F2 s.1 o1] ∧ S' = ⟨hav [(0, .lit l1 aRoutes0.length (flatL m2 aRoutes0)), (3, o1), (12, .lit l1 aRoutes0.length (flatL m2 aRoutes0)), (13, .int .i64 (aRoutes0.length : Int)), (14, .int .i64 s.2)] J, G⟩) hk ⟨(.tl 0 []), [], _, _, (Owns.addAp hO (List Int) lk.length), St.hav _ ⟨rfl, rfl, rfl, rfl, rfl, trivial⟩⟩ ?_
    rintro ⟨x1, x3⟩ _ y1 ⟨o1, F2, J, G, hO, rfl⟩ hk hx1
    refine wpL_sq ?_
    refine wpL_rg ?_
    refine pBi ?_
    refine pE ?_
    refine gn ?_
    refine wpL_sq ?_
    refine wpL_cd (b := decide (x3 < (aRoutes0.length : Int))) (fun hb => ?_) (fun hb => ?_)
    · replace hk := ct hb hk
      refine wpL_sk ?_
      refine gn ?_
      refine wpL_sq ?_
      refine wpL_bl ?_
      refine wpL_sq ?_
      refine wpL_rg ?_
      obtain ⟨c4, hc4, hk⟩ := bs hk
      refine pX hc4 tE96 tZ68 ?_
      refine pLp (.agg [_, _, _, _, _, _, _, _]) (rd2 (lm := m2) (off := 0) hc4 tA68 tZ68) ?_
      refine pNew hO tZ68 t068 (fun b5 G hO => ?_)
      refine pSn (xs := [_, _, _, _, _, _, _, _]) [_, _, _, _, _, _, _, _] hO 0 tZ68 rfl (fun G hO => ?_)
      refine pE ?_
      refine gn ?_
      refine wpL_sq ?_
      refine wpL_rg ?_
      refine pA (.tl 0 []) ?_
      refine pE ?_
      refine gn ?_
      refine wpL_sq ?_
      refine wpL_sq ?_
      refine wpL_rg ?_
      refine pM (.lit _ _ _) ?_
      refine pLen tS96 ?_
      refine pM (.int _ _) ?_
      refine pE ?_
      refine gn ?_
      refine wpL_bl ?_
      refine wpL_loopO (F := f63_L2 aRoutes0 x3 c4) (fun s S' => ∃ (o8 : V) (o6 : V) (F7 : List Nat) (J : Nat → V) (G : Heap), Nz o8 ∧ Owns H G [.blk b5 (.cells 8 [.int .i64 c4.From, .int .i64 c4.To, .lit m2 c4.Steps.length ((flatL 0) c4.Steps), .lit m2 c4.Lies.length ((flatL 0) c4.Lies), .lit m2 c4.Crosses.length ((flatL 0) c4.Crosses), .lit m2 c4.Parts.length ((flatL 0) c4.Parts), .lit m2 c4.Over.length ((flatL 0) c4.Over), .lit m2 c4.Flanks.length ((flatL 0) c4.Flanks)]), Ap H lk.length F7 s.1 o6, .own o8 lk.length 1 s.2.1.length ((flatL 0) s.2.1)] ∧ S' = ⟨hav [(0, .lit l1 aRoutes0.length (flatL m2 aRoutes0)), (3, o6), (5, .ptr b5 0), (6, o8), (12, .lit l1 aRoutes0.length (flatL m2 aRoutes0)), (13, .int .i64 (aRoutes0.length : Int)), (14, .int .i64 x3), (18, .lit l1 aRoutes0.length (flatL m2 aRoutes0)), (19, .int .i64 (aRoutes0.length : Int)), (20, .int .i64 s.2.2)] J, G⟩) hk ⟨(.tl 0 []), o1, F2, _, _, Nz.nil, (Owns.pick (Owns.addTl hO lk.length ([] : List Int)) [1, 2, 0] (by decide) rfl), St.hav _ ⟨rfl, rfl, rfl, rfl, rfl, rfl, rfl, rfl, rfl, rfl, trivial⟩⟩ ?_
      rintro ⟨x6, x8, x10⟩ _ y2 ⟨o8, o6, F7, J, G, hno8, hO, rfl⟩ hk hx2
      refine wpL_sq ?_
      refine wpL_rg ?_
      refine pBi ?_
      refine pE ?_
      refine gn ?_
      refine wpL_sq ?_
      refine wpL_cd (b := decide (x10 < (aRoutes0.length : Int))) (fun hb => ?_) (fun hb => ?_)
      · replace hk := ct hb hk
        refine wpL_sk ?_
        refine gn ?_
        refine wpL_sq ?_
        refine wpL_bl ?_
        refine wpL_sq ?_
        refine wpL_rg ?_
        obtain ⟨c11, hc11, hk⟩ := bs hk
        refine pX hc11 tE96 tZ68 ?_
        refine pLp (.agg [_, _, _, _, _, _, _, _]) (rd2 (lm := m2) (off := 0) hc11 tA68 tZ68) ?_
        refine pNew hO tZ68 t068 (fun b12 G hO => ?_)
        refine pSn (xs := [_, _, _, _, _, _, _, _]) [_, _, _, _, _, _, _, _] hO 0 tZ68 rfl (fun G hO => ?_)
        refine pE ?_
        refine gn ?_
        refine wpL_rg ?_
        refine pM o8 ?_
        refine pLs hO 1 [_, _, _, _, _, _, _, _] tA68 tZ68 ?_
        refine pLs hO 0 [_, _, _, _, _, _, _, _] tA68 tZ68 ?_
        obtain ⟨v13, hv13, hk⟩ := bs hk
        refine pCallL hO hlo rfl (fun _ hl => f49_run hv13 (hlo := hl)) ?_
        refine pBs (ps := [(0, (.int _ _))]) ([v13] : List Int) tE26 tZ3 t03 (emb_cons (embx_int _ _) (emb_nil)) ?_
        obtain ⟨z14, hz14, hk⟩ := bs hk
        refine pAp (xs := x8) hO 3 hz14 (bears_tl ([v13] : List Int)) tE26 tZ3 tB3 t03 tE26 rfl (fun o14 G hno14 hO => ?_)
        replace hno14 := hno14 hno8
        refine pA o14 ?_
        refine pE ?_
        refine bn (gn ?_)
        refine wpL_rg ?_
        refine pBi ?_
        refine pM (.int _ _) ?_
        refine pE ?_
        refine gn ?_
        cases hk; exact ⟨_, rfl, o14, o6, F7, _, _, hno14, (Owns.pick hO [1, 2, 3] (by decide) rfl), St.hav _ ⟨rfl, rfl, rfl, rfl, rfl, rfl, rfl, rfl, rfl, rfl, trivial⟩⟩
      · replace hk := cf hb hk
        refine wpL_ex ?_
        refine ge (ge (be (gn ?_)))
        replace hk := lx hx2 hk
        refine wpL_rg ?_
        refine pM o6 ?_
        refine pM o8 ?_
        have hc15 := own_cells hO (j := 2) rfl
        refine pBs1 (ce := [o8]) tE94 tZ26 t026 hc15.1 rfl (one_cell hc15.2) ?_
        replace hO := (Owns.pick hO [2, 0, 1] (by decide) rfl : Owns H G [.own o8 lk.length 1 x8.length ((flatL 0) x8), .blk b5 (.cells 8 [.int .i64 c4.From, .int .i64 c4.To, .lit m2 c4.Steps.length ((flatL 0) c4.Steps), .lit m2 c4.Lies.length ((flatL 0) c4.Lies), .lit m2 c4.Crosses.length ((flatL 0) c4.Crosses), .lit m2 c4.Parts.length ((flatL 0) c4.Parts), .lit m2 c4.Over.length ((flatL 0) c4.Over), .lit m2 c4.Flanks.length ((flatL 0) c4.Flanks)]), Ap H lk.length F7 x6 o6])
        obtain ⟨F16, hO, hce16⟩ := Owns.promO hO hno8 hlk
        obtain ⟨z17, hz17, hk⟩ := bs hk
        refine pApA hO 1 hz17 hce16.1 hce16.2 tE94 tZ26 tB26 t026 tE94 rfl (fun o17 F18 G hO => ?_)
        refine pA o17 ?_
        refine pE ?_
        refine bn (gn ?_)
        refine wpL_rg ?_
        refine pBi ?_
        refine pM (.int _ _) ?_
        refine pE ?_
        refine gn ?_
        cases hk; exact ⟨_, rfl, o17, F18, _, _, (Owns.pick hO [1] (by decide) rfl), St.hav _ ⟨rfl, rfl, rfl, rfl, rfl, trivial⟩⟩
    · replace hk := cf hb hk
      refine wpL_ex ?_
      refine ge (ge (be (gn ?_)))
      replace hk := lx hx1 hk
      refine wpL_sq ?_
      refine wpL_rg ?_
      refine pM o1 ?_
      refine pA o1 ?_
      refine pE ?_
      refine gn ?_
      refine wpL_rt ?_
      replace hk := Option.some.inj hk; subst hk; exact finThL hO (th_ap (xs := x1) hlk 0) (resT o1 resN)
/-- laws.eqIntS -/
def f28_L1 (aA0 : List Int) (aB1 : List Int) : Int → Option (Int ⊕ Bool) := fun s =>
  (bif decide (s < (aA0.length : Int)) then ((getI aA0 s).bind fun c2 => ((getI aB1 s).bind fun c3 => (bif (c2 != c3) then ((some false).map Sum.inr) else some (.inl (w64 (s + (1:Int))))))) else ((some true).map Sum.inr))
def f28 (aA0 : List Int) (aB1 : List Int) : Option Bool :=
  (bif ((aA0.length : Int) != (aB1.length : Int)) then some false else (loopO (f28_L1 aA0 aB1) ((0:Int))))
theorem f28_run {aA0 : List Int} {aB1 : List Int} {r : Bool} {l1 l2 : Nat} {H : Heap} {lk : Lk} (hk : f28 aA0 aB1 = some r) (hlk : 0 < lk.length := by simp) : runL Try.prog hh 28 [.lit l1 aA0.length ((flatL 0) aA0), .lit l2 aB1.length ((flatL 0) aB1)] H lk = some (.bool r, H) := by
  refine run_start Try.func28 rfl Try.ntmps28 Try.results28 rfl rfl fun hO => ?_
  unfold f28 at hk
  refine wpL_sq ?_
  refine wpL_rg ?_
  refine pA (.bool _) ?_
  refine pE ?_
  refine gn ?_
  refine wpL_sq ?_
  refine wpL_sq ?_
  refine wpL_rg ?_
  refine pM (.lit _ _ _) ?_
  refine pLen tS26 ?_
  refine pM (.lit _ _ _) ?_
  refine pLen tS26 ?_
  refine pBi ?_
  refine pE ?_
  refine gn ?_
  refine wpL_cd (b := ((aA0.length : Int) != (aB1.length : Int))) (fun hb => ?_) (fun hb => ?_)
  · replace hk := ct hb hk
    refine wpL_sq ?_
    refine wpL_rg ?_
    refine pA (.bool _) ?_
    refine pE ?_
    refine gn ?_
    refine wpL_rt ?_
    refine gr ?_
    replace hk := Option.some.inj hk; subst hk; exact fin0 hO
  · replace hk := cf hb hk
    refine wpL_sk ?_
    refine gn ?_
    refine wpL_sq ?_
    refine wpL_sq ?_
    refine wpL_rg ?_
    refine pA (.int _ _) ?_
    refine pE ?_
    refine gn ?_
    refine wpL_bl ?_
    refine wpL_loopO (F := f28_L1 aA0 aB1) (fun s S' => ∃ (J : Nat → V) (G : Heap), Owns H G [] ∧ S' = ⟨hav [(0, .lit l1 aA0.length ((flatL 0) aA0)), (1, .lit l2 aB1.length ((flatL 0) aB1)), (5, .int .i64 s)] J, G⟩) hk ⟨_, _, hO, St.hav _ ⟨rfl, rfl, rfl, trivial⟩⟩ ?_
    rintro x1 _ y1 ⟨J, G, hO, rfl⟩ hk hx1
    refine wpL_sq ?_
    refine wpL_sq ?_
    refine wpL_rg ?_
    refine pM (.int _ _) ?_
    refine pM (.lit _ _ _) ?_
    refine pLen tS26 ?_
    refine pBi ?_
    refine pE ?_
    refine gn ?_
    refine wpL_cd (b := decide (x1 < (aA0.length : Int))) (fun hb => ?_) (fun hb => ?_)
    · replace hk := ct hb hk
      refine wpL_sk ?_
      refine gn ?_
      refine wpL_sq ?_
      refine wpL_bl ?_
      refine wpL_sq ?_
      refine wpL_drw [(0, true), (1, true), (2, true), (3, true), (4, true), (5, true), (6, true), (7, true), (8, false)] [_, _, _, _, _, _, _, _, _] (by decide +kernel) (by rfl) ?_
      refine pM (.lit _ _ _) ?_
      refine pM (.int _ _) ?_
      obtain ⟨c2, hc2, hk⟩ := bs hk
      refine pX hc2 tE26 tZ3 ?_
      refine pLp (.int _ _) (rd1 (lm := 0) (off := 0) hc2 tA3) ?_
      refine pM (.lit _ _ _) ?_
      refine pM (.int _ _) ?_
      obtain ⟨c3, hc3, hk⟩ := bs hk
      refine pX hc3 tE26 tZ3 ?_
      refine pLp (.int _ _) (rd1 (lm := 0) (off := 0) hc3 tA3) ?_
      refine pBi ?_
      refine pE ?_
      refine gn ?_
      refine wpL_cd (b := (c2 != c3)) (fun hb => ?_) (fun hb => ?_)
      · replace hk := ct hb hk
        refine wpL_sq ?_
        refine wpL_rg ?_
        refine pA (.bool _) ?_
        refine pE ?_
        refine gn ?_
        refine wpL_rt ?_
        refine br (gr (gr (br (gr ?_))))
        replace hk := lx hx1 hk
        replace hk := Option.some.inj hk; subst hk; exact fin0 hO
      · replace hk := cf hb hk
        refine wpL_sk ?_
        refine bn (gn ?_)
        refine wpL_rg ?_
        refine pM (.int _ _) ?_
        refine pBi ?_
        refine pA (.int _ _) ?_
        refine pE ?_
        refine gn ?_
        cases hk; exact ⟨_, rfl, _, _, hO, St.hav _ ⟨rfl, rfl, rfl, trivial⟩⟩
    · replace hk := cf hb hk
      refine wpL_ex ?_
      refine ge (ge (be (gn ?_)))
      replace hk := lx hx1 hk
      refine wpL_sq ?_
      refine wpL_rg ?_
      refine pA (.bool _) ?_
      refine pE ?_
      refine gn ?_
      refine wpL_rt ?_
      replace hk := Option.some.inj hk; subst hk; exact fin0 hO
/-- laws.eqIntSS -/
def f64_L1 (aA0 : List (List Int)) (aB1 : List (List Int)) : Int → Option (Int ⊕ Bool) := fun s =>
  (bif decide (s < (aA0.length : Int)) then ((getI aA0 s).bind fun c2 => ((getI aB1 s).bind fun c3 => ((f28 c2 c3).bind fun v4 => (bif !v4 then ((some false).map Sum.inr) else some (.inl (w64 (s + (1:Int)))))))) else ((some true).map Sum.inr))
def f64 (aA0 : List (List Int)) (aB1 : List (List Int)) : Option Bool :=
  (bif ((aA0.length : Int) != (aB1.length : Int)) then some false else (loopO (f64_L1 aA0 aB1) ((0:Int))))
theorem f64_run {aA0 : List (List Int)} {aB1 : List (List Int)} {r : Bool} {l1 m2 l3 m4 : Nat} {H : Heap} {lk : Lk} (hk : f64 aA0 aB1 = some r) (hlk : 0 < lk.length := by simp) : runL Try.prog hh 64 [.lit l1 aA0.length (flatL m2 aA0), .lit l3 aB1.length (flatL m4 aB1)] H lk = some (.bool r, H) := by
  refine run_start Try.func64 rfl Try.ntmps64 Try.results64 rfl rfl fun hO => ?_
  unfold f64 at hk
  refine wpL_sq ?_
  refine wpL_rg ?_
  refine pA (.bool _) ?_
  refine pE ?_
  refine gn ?_
  refine wpL_sq ?_
  refine wpL_sq ?_
  refine wpL_rg ?_
  refine pM (.lit _ _ _) ?_
  refine pLen tS94 ?_
  refine pM (.lit _ _ _) ?_
  refine pLen tS94 ?_
  refine pBi ?_
  refine pE ?_
  refine gn ?_
  refine wpL_cd (b := ((aA0.length : Int) != (aB1.length : Int))) (fun hb => ?_) (fun hb => ?_)
  · replace hk := ct hb hk
    refine wpL_sq ?_
    refine wpL_rg ?_
    refine pA (.bool _) ?_
    refine pE ?_
    refine gn ?_
    refine wpL_rt ?_
    refine gr ?_
    replace hk := Option.some.inj hk; subst hk; exact fin0 hO
  · replace hk := cf hb hk
    refine wpL_sk ?_
    refine gn ?_
    refine wpL_sq ?_
    refine wpL_sq ?_
    refine wpL_rg ?_
    refine pA (.int _ _) ?_
    refine pE ?_
    refine gn ?_
    refine wpL_bl ?_
    refine wpL_loopO (F := f64_L1 aA0 aB1) (fun s S' => ∃ (J : Nat → V) (G : Heap), Owns H G [] ∧ S' = ⟨hav [(0, .lit l1 aA0.length (flatL m2 aA0)), (1, .lit l3 aB1.length (flatL m4 aB1)), (5, .int .i64 s)] J, G⟩) hk ⟨_, _, hO, St.hav _ ⟨rfl, rfl, rfl, trivial⟩⟩ ?_
    rintro x1 _ y1 ⟨J, G, hO, rfl⟩ hk hx1
    refine wpL_sq ?_
    refine wpL_sq ?_
    refine wpL_rg ?_
    refine pM (.int _ _) ?_
    refine pM (.lit _ _ _) ?_
    refine pLen tS94 ?_
    refine pBi ?_
    refine pE ?_
    refine gn ?_
    refine wpL_cd (b := decide (x1 < (aA0.length : Int))) (fun hb => ?_) (fun hb => ?_)
    · replace hk := ct hb hk
      refine wpL_sk ?_
      refine gn ?_
      refine wpL_sq ?_
      refine wpL_bl ?_
      refine wpL_sq ?_
      refine wpL_drw [(0, true), (1, true), (2, true), (3, true), (4, true), (5, true), (6, true), (7, true), (8, false), (9, false)] [_, _, _, _, _, _, _, _, _, _] (by decide +kernel) (by rfl) ?_
      refine pM (.lit _ _ _) ?_
      refine pM (.int _ _) ?_
      obtain ⟨c2, hc2, hk⟩ := bs hk
      refine pX hc2 tE94 tZ26 ?_
      refine pLp (.lit _ _ _) (rd1 (lm := m2) (off := 0) hc2 tA26) ?_
      refine pM (.lit _ _ _) ?_
      refine pM (.int _ _) ?_
      obtain ⟨c3, hc3, hk⟩ := bs hk
      refine pX hc3 tE94 tZ26 ?_
      refine pLp (.lit _ _ _) (rd1 (lm := m4) (off := 0) hc3 tA26) ?_
      obtain ⟨v4, hv4, hk⟩ := bs hk
      refine pCall (fun _ => f28_run hv4) ?_
      refine pU ?_
      refine pE ?_
      refine gn ?_
      refine wpL_cd (b := !v4) (fun hb => ?_) (fun hb => ?_)
      · replace hk := ct hb hk
        refine wpL_sq ?_
        refine wpL_rg ?_
        refine pA (.bool _) ?_
        refine pE ?_
        refine gn ?_
        refine wpL_rt ?_
        refine br (gr (gr (br (gr ?_))))
        replace hk := lx hx1 hk
        replace hk := Option.some.inj hk; subst hk; exact fin0 hO
      · replace hk := cf hb hk
        refine wpL_sk ?_
        refine bn (gn ?_)
        refine wpL_rg ?_
        refine pM (.int _ _) ?_
        refine pBi ?_
        refine pA (.int _ _) ?_
        refine pE ?_
        refine gn ?_
        cases hk; exact ⟨_, rfl, _, _, hO, St.hav _ ⟨rfl, rfl, rfl, trivial⟩⟩
    · replace hk := cf hb hk
      refine wpL_ex ?_
      refine ge (ge (be (gn ?_)))
      replace hk := lx hx1 hk
      refine wpL_sq ?_
      refine wpL_rg ?_
      refine pA (.bool _) ?_
      refine pE ?_
      refine gn ?_
      refine wpL_rt ?_
      replace hk := Option.some.inj hk; subst hk; exact fin0 hO
/-- laws.eqStep -/
def f263 (aA0 : Step) (aB1 : Step) : Option Bool :=
  (bif (aA0.Piece != aB1.Piece) then some false else (bif (aA0.Way != aB1.Way) then some false else some true))
theorem f263_run {aA0 : Step} {aB1 : Step} {r : Bool} {H : Heap} {lk : Lk} (hk : f263 aA0 aB1 = some r) (hlk : 0 < lk.length := by simp) : runL Try.prog hh 263 [.agg [.int .i64 aA0.Piece, .int .i64 aA0.Way], .agg [.int .i64 aB1.Piece, .int .i64 aB1.Way]] H lk = some (.bool r, H) := by
  refine run_start Try.func263 rfl Try.ntmps263 Try.results263 rfl rfl fun hO => ?_
  unfold f263 at hk
  refine wpL_sq ?_
  refine wpL_rg ?_
  refine pBox (cs := [_, _]) hO tZ258 (fun b1 G hO => ?_)
  refine pBox (cs := [_, _]) hO tZ258 (fun b2 G hO => ?_)
  refine pA (.bool _) ?_
  refine pE ?_
  refine gn ?_
  refine wpL_sq ?_
  refine wpL_sq ?_
  refine wpL_rg ?_
  refine pF tF258_0 ?_
  refine pLo hO 1 (.int _ _) tA3 ?_
  refine pF tF258_0 ?_
  refine pLo hO 0 (.int _ _) tA3 ?_
  refine pBi ?_
  refine pE ?_
  refine gn ?_
  refine wpL_cd (b := (aA0.Piece != aB1.Piece)) (fun hb => ?_) (fun hb => ?_)
  · replace hk := ct hb hk
    refine wpL_sq ?_
    refine wpL_rg ?_
    refine pA (.bool _) ?_
    refine pE ?_
    refine gn ?_
    refine wpL_rt ?_
    refine gr ?_
    replace hk := Option.some.inj hk; subst hk; exact fin0 hO
  · replace hk := cf hb hk
    refine wpL_sk ?_
    refine gn ?_
    refine wpL_sq ?_
    refine wpL_sq ?_
    refine wpL_rg ?_
    refine pF tF258_1 ?_
    refine pLo hO 1 (.int _ _) tA3 ?_
    refine pF tF258_1 ?_
    refine pLo hO 0 (.int _ _) tA3 ?_
    refine pBi ?_
    refine pE ?_
    refine gn ?_
    refine wpL_cd (b := (aA0.Way != aB1.Way)) (fun hb => ?_) (fun hb => ?_)
    · replace hk := ct hb hk
      refine wpL_sq ?_
      refine wpL_rg ?_
      refine pA (.bool _) ?_
      refine pE ?_
      refine gn ?_
      refine wpL_rt ?_
      refine gr ?_
      replace hk := Option.some.inj hk; subst hk; exact fin0 hO
    · replace hk := cf hb hk
      refine wpL_sk ?_
      refine gn ?_
      refine wpL_sq ?_
      refine wpL_rg ?_
      refine pA (.bool _) ?_
      refine pE ?_
      refine gn ?_
      refine wpL_rt ?_
      replace hk := Option.some.inj hk; subst hk; exact fin0 hO
/-- laws.eqStepS -/
def f163_L1 (aA0 : List Step) (aB1 : List Step) : Int → Option (Int ⊕ Bool) := fun s =>
  (bif decide (s < (aA0.length : Int)) then ((getI aA0 s).bind fun c2 => ((getI aB1 s).bind fun c3 => ((f263 c2 c3).bind fun v4 => (bif !v4 then ((some false).map Sum.inr) else some (.inl (w64 (s + (1:Int)))))))) else ((some true).map Sum.inr))
def f163 (aA0 : List Step) (aB1 : List Step) : Option Bool :=
  (bif ((aA0.length : Int) != (aB1.length : Int)) then some false else (loopO (f163_L1 aA0 aB1) ((0:Int))))
theorem f163_run {aA0 : List Step} {aB1 : List Step} {r : Bool} {l1 l2 : Nat} {H : Heap} {lk : Lk} (hk : f163 aA0 aB1 = some r) (hlk : 0 < lk.length := by simp) : runL Try.prog hh 163 [.lit l1 aA0.length ((flatL 0) aA0), .lit l2 aB1.length ((flatL 0) aB1)] H lk = some (.bool r, H) := by
  refine run_start Try.func163 rfl Try.ntmps163 Try.results163 rfl rfl fun hO => ?_
  unfold f163 at hk
  refine wpL_sq ?_
  refine wpL_rg ?_
  refine pA (.bool _) ?_
  refine pE ?_
  refine gn ?_
  refine wpL_sq ?_
  refine wpL_sq ?_
  refine wpL_rg ?_
  refine pM (.lit _ _ _) ?_
  refine pLen tS63 ?_
  refine pM (.lit _ _ _) ?_
  refine pLen tS63 ?_
  refine pBi ?_
  refine pE ?_
  refine gn ?_
  refine wpL_cd (b := ((aA0.length : Int) != (aB1.length : Int))) (fun hb => ?_) (fun hb => ?_)
  · replace hk := ct hb hk
    refine wpL_sq ?_
    refine wpL_rg ?_
    refine pA (.bool _) ?_
    refine pE ?_
    refine gn ?_
    refine wpL_rt ?_
    refine gr ?_
    replace hk := Option.some.inj hk; subst hk; exact fin0 hO
  · replace hk := cf hb hk
    refine wpL_sk ?_
    refine gn ?_
    refine wpL_sq ?_
    refine wpL_sq ?_
    refine wpL_rg ?_
    refine pA (.int _ _) ?_
    refine pE ?_
    refine gn ?_
    refine wpL_bl ?_
    refine wpL_loopO (F := f163_L1 aA0 aB1) (fun s S' => ∃ (J : Nat → V) (G : Heap), Owns H G [] ∧ S' = ⟨hav [(0, .lit l1 aA0.length ((flatL 0) aA0)), (1, .lit l2 aB1.length ((flatL 0) aB1)), (5, .int .i64 s)] J, G⟩) hk ⟨_, _, hO, St.hav _ ⟨rfl, rfl, rfl, trivial⟩⟩ ?_
    rintro x1 _ y1 ⟨J, G, hO, rfl⟩ hk hx1
    refine wpL_sq ?_
    refine wpL_sq ?_
    refine wpL_rg ?_
    refine pM (.int _ _) ?_
    refine pM (.lit _ _ _) ?_
    refine pLen tS63 ?_
    refine pBi ?_
    refine pE ?_
    refine gn ?_
    refine wpL_cd (b := decide (x1 < (aA0.length : Int))) (fun hb => ?_) (fun hb => ?_)
    · replace hk := ct hb hk
      refine wpL_sk ?_
      refine gn ?_
      refine wpL_sq ?_
      refine wpL_bl ?_
      refine wpL_sq ?_
      refine wpL_drw [(0, true), (1, true), (2, true), (3, true), (4, true), (5, true), (6, true), (7, true), (8, false), (9, false)] [_, _, _, _, _, _, _, _, _, _] (by decide +kernel) (by rfl) ?_
      refine pM (.lit _ _ _) ?_
      refine pM (.int _ _) ?_
      obtain ⟨c2, hc2, hk⟩ := bs hk
      refine pX hc2 tE63 tZ258 ?_
      refine pLp (.agg [_, _]) (rd2 (lm := 0) (off := 0) hc2 tA258 tZ258) ?_
      refine pM (.lit _ _ _) ?_
      refine pM (.int _ _) ?_
      obtain ⟨c3, hc3, hk⟩ := bs hk
      refine pX hc3 tE63 tZ258 ?_
      refine pLp (.agg [_, _]) (rd2 (lm := 0) (off := 0) hc3 tA258 tZ258) ?_
      obtain ⟨v4, hv4, hk⟩ := bs hk
      refine pCall (fun _ => f263_run hv4) ?_
      refine pU ?_
      refine pE ?_
      refine gn ?_
      refine wpL_cd (b := !v4) (fun hb => ?_) (fun hb => ?_)
      · replace hk := ct hb hk
        refine wpL_sq ?_
        refine wpL_rg ?_
        refine pA (.bool _) ?_
        refine pE ?_
        refine gn ?_
        refine wpL_rt ?_
        refine br (gr (gr (br (gr ?_))))
        replace hk := lx hx1 hk
        replace hk := Option.some.inj hk; subst hk; exact fin0 hO
      · replace hk := cf hb hk
        refine wpL_sk ?_
        refine bn (gn ?_)
        refine wpL_rg ?_
        refine pM (.int _ _) ?_
        refine pBi ?_
        refine pA (.int _ _) ?_
        refine pE ?_
        refine gn ?_
        cases hk; exact ⟨_, rfl, _, _, hO, St.hav _ ⟨rfl, rfl, rfl, trivial⟩⟩
    · replace hk := cf hb hk
      refine wpL_ex ?_
      refine ge (ge (be (gn ?_)))
      replace hk := lx hx1 hk
      refine wpL_sq ?_
      refine wpL_rg ?_
      refine pA (.bool _) ?_
      refine pE ?_
      refine gn ?_
      refine wpL_rt ?_
      replace hk := Option.some.inj hk; subst hk; exact fin0 hO
/-- laws.eqLie -/
def f264 (aA0 : Lie) (aB1 : Lie) : Option Bool :=
  (bif (aA0.Joint != aB1.Joint) then some false else (bif (aA0.Lie != aB1.Lie) then some false else some true))
theorem f264_run {aA0 : Lie} {aB1 : Lie} {r : Bool} {H : Heap} {lk : Lk} (hk : f264 aA0 aB1 = some r) (hlk : 0 < lk.length := by simp) : runL Try.prog hh 264 [.agg [.int .i64 aA0.Joint, .int .i64 aA0.Lie], .agg [.int .i64 aB1.Joint, .int .i64 aB1.Lie]] H lk = some (.bool r, H) := by
  refine run_start Try.func264 rfl Try.ntmps264 Try.results264 rfl rfl fun hO => ?_
  unfold f264 at hk
  refine wpL_sq ?_
  refine wpL_rg ?_
  refine pBox (cs := [_, _]) hO tZ206 (fun b1 G hO => ?_)
  refine pBox (cs := [_, _]) hO tZ206 (fun b2 G hO => ?_)
  refine pA (.bool _) ?_
  refine pE ?_
  refine gn ?_
  refine wpL_sq ?_
  refine wpL_sq ?_
  refine wpL_rg ?_
  refine pF tF206_0 ?_
  refine pLo hO 1 (.int _ _) tA3 ?_
  refine pF tF206_0 ?_
  refine pLo hO 0 (.int _ _) tA3 ?_
  refine pBi ?_
  refine pE ?_
  refine gn ?_
  refine wpL_cd (b := (aA0.Joint != aB1.Joint)) (fun hb => ?_) (fun hb => ?_)
  · replace hk := ct hb hk
    refine wpL_sq ?_
    refine wpL_rg ?_
    refine pA (.bool _) ?_
    refine pE ?_
    refine gn ?_
    refine wpL_rt ?_
    refine gr ?_
    replace hk := Option.some.inj hk; subst hk; exact fin0 hO
  · replace hk := cf hb hk
    refine wpL_sk ?_
    refine gn ?_
    refine wpL_sq ?_
    refine wpL_sq ?_
    refine wpL_rg ?_
    refine pF tF206_1 ?_
    refine pLo hO 1 (.int _ _) tA3 ?_
    refine pF tF206_1 ?_
    refine pLo hO 0 (.int _ _) tA3 ?_
    refine pBi ?_
    refine pE ?_
    refine gn ?_
    refine wpL_cd (b := (aA0.Lie != aB1.Lie)) (fun hb => ?_) (fun hb => ?_)
    · replace hk := ct hb hk
      refine wpL_sq ?_
      refine wpL_rg ?_
      refine pA (.bool _) ?_
      refine pE ?_
      refine gn ?_
      refine wpL_rt ?_
      refine gr ?_
      replace hk := Option.some.inj hk; subst hk; exact fin0 hO
    · replace hk := cf hb hk
      refine wpL_sk ?_
      refine gn ?_
      refine wpL_sq ?_
      refine wpL_rg ?_
      refine pA (.bool _) ?_
      refine pE ?_
      refine gn ?_
      refine wpL_rt ?_
      replace hk := Option.some.inj hk; subst hk; exact fin0 hO
/-- laws.eqLieS -/
def f164_L1 (aA0 : List Lie) (aB1 : List Lie) : Int → Option (Int ⊕ Bool) := fun s =>
  (bif decide (s < (aA0.length : Int)) then ((getI aA0 s).bind fun c2 => ((getI aB1 s).bind fun c3 => ((f264 c2 c3).bind fun v4 => (bif !v4 then ((some false).map Sum.inr) else some (.inl (w64 (s + (1:Int)))))))) else ((some true).map Sum.inr))
def f164 (aA0 : List Lie) (aB1 : List Lie) : Option Bool :=
  (bif ((aA0.length : Int) != (aB1.length : Int)) then some false else (loopO (f164_L1 aA0 aB1) ((0:Int))))
theorem f164_run {aA0 : List Lie} {aB1 : List Lie} {r : Bool} {l1 l2 : Nat} {H : Heap} {lk : Lk} (hk : f164 aA0 aB1 = some r) (hlk : 0 < lk.length := by simp) : runL Try.prog hh 164 [.lit l1 aA0.length ((flatL 0) aA0), .lit l2 aB1.length ((flatL 0) aB1)] H lk = some (.bool r, H) := by
  refine run_start Try.func164 rfl Try.ntmps164 Try.results164 rfl rfl fun hO => ?_
  unfold f164 at hk
  refine wpL_sq ?_
  refine wpL_rg ?_
  refine pA (.bool _) ?_
  refine pE ?_
  refine gn ?_
  refine wpL_sq ?_
  refine wpL_sq ?_
  refine wpL_rg ?_
  refine pM (.lit _ _ _) ?_
  refine pLen tS64 ?_
  refine pM (.lit _ _ _) ?_
  refine pLen tS64 ?_
  refine pBi ?_
  refine pE ?_
  refine gn ?_
  refine wpL_cd (b := ((aA0.length : Int) != (aB1.length : Int))) (fun hb => ?_) (fun hb => ?_)
  · replace hk := ct hb hk
    refine wpL_sq ?_
    refine wpL_rg ?_
    refine pA (.bool _) ?_
    refine pE ?_
    refine gn ?_
    refine wpL_rt ?_
    refine gr ?_
    replace hk := Option.some.inj hk; subst hk; exact fin0 hO
  · replace hk := cf hb hk
    refine wpL_sk ?_
    refine gn ?_
    refine wpL_sq ?_
    refine wpL_sq ?_
    refine wpL_rg ?_
    refine pA (.int _ _) ?_
    refine pE ?_
    refine gn ?_
    refine wpL_bl ?_
    refine wpL_loopO (F := f164_L1 aA0 aB1) (fun s S' => ∃ (J : Nat → V) (G : Heap), Owns H G [] ∧ S' = ⟨hav [(0, .lit l1 aA0.length ((flatL 0) aA0)), (1, .lit l2 aB1.length ((flatL 0) aB1)), (5, .int .i64 s)] J, G⟩) hk ⟨_, _, hO, St.hav _ ⟨rfl, rfl, rfl, trivial⟩⟩ ?_
    rintro x1 _ y1 ⟨J, G, hO, rfl⟩ hk hx1
    refine wpL_sq ?_
    refine wpL_sq ?_
    refine wpL_rg ?_
    refine pM (.int _ _) ?_
    refine pM (.lit _ _ _) ?_
    refine pLen tS64 ?_
    refine pBi ?_
    refine pE ?_
    refine gn ?_
    refine wpL_cd (b := decide (x1 < (aA0.length : Int))) (fun hb => ?_) (fun hb => ?_)
    · replace hk := ct hb hk
      refine wpL_sk ?_
      refine gn ?_
      refine wpL_sq ?_
      refine wpL_bl ?_
      refine wpL_sq ?_
      refine wpL_drw [(0, true), (1, true), (2, true), (3, true), (4, true), (5, true), (6, true), (7, true), (8, false), (9, false)] [_, _, _, _, _, _, _, _, _, _] (by decide +kernel) (by rfl) ?_
      refine pM (.lit _ _ _) ?_
      refine pM (.int _ _) ?_
      obtain ⟨c2, hc2, hk⟩ := bs hk
      refine pX hc2 tE64 tZ206 ?_
      refine pLp (.agg [_, _]) (rd2 (lm := 0) (off := 0) hc2 tA206 tZ206) ?_
      refine pM (.lit _ _ _) ?_
      refine pM (.int _ _) ?_
      obtain ⟨c3, hc3, hk⟩ := bs hk
      refine pX hc3 tE64 tZ206 ?_
      refine pLp (.agg [_, _]) (rd2 (lm := 0) (off := 0) hc3 tA206 tZ206) ?_
      obtain ⟨v4, hv4, hk⟩ := bs hk
      refine pCall (fun _ => f264_run hv4) ?_
      refine pU ?_
      refine pE ?_
      refine gn ?_
      refine wpL_cd (b := !v4) (fun hb => ?_) (fun hb => ?_)
      · replace hk := ct hb hk
        refine wpL_sq ?_
        refine wpL_rg ?_
        refine pA (.bool _) ?_
        refine pE ?_
        refine gn ?_
        refine wpL_rt ?_
        refine br (gr (gr (br (gr ?_))))
        replace hk := lx hx1 hk
        replace hk := Option.some.inj hk; subst hk; exact fin0 hO
      · replace hk := cf hb hk
        refine wpL_sk ?_
        refine bn (gn ?_)
        refine wpL_rg ?_
        refine pM (.int _ _) ?_
        refine pBi ?_
        refine pA (.int _ _) ?_
        refine pE ?_
        refine gn ?_
        cases hk; exact ⟨_, rfl, _, _, hO, St.hav _ ⟨rfl, rfl, rfl, trivial⟩⟩
    · replace hk := cf hb hk
      refine wpL_ex ?_
      refine ge (ge (be (gn ?_)))
      replace hk := lx hx1 hk
      refine wpL_sq ?_
      refine wpL_rg ?_
      refine pA (.bool _) ?_
      refine pE ?_
      refine gn ?_
      refine wpL_rt ?_
      replace hk := Option.some.inj hk; subst hk; exact fin0 hO
/-- laws.eqPart -/
def f233 (aA0 : Part) (aB1 : Part) : Option Bool :=
  (bif (aA0.Piece != aB1.Piece) then some false else (bif (aA0.From != aB1.From) then some false else (bif (aA0.To != aB1.To) then some false else some true)))
theorem f233_run {aA0 : Part} {aB1 : Part} {r : Bool} {H : Heap} {lk : Lk} (hk : f233 aA0 aB1 = some r) (hlk : 0 < lk.length := by simp) : runL Try.prog hh 233 [.agg [.int .i64 aA0.Piece, .int .i64 aA0.From, .int .i64 aA0.To], .agg [.int .i64 aB1.Piece, .int .i64 aB1.From, .int .i64 aB1.To]] H lk = some (.bool r, H) := by
  refine run_start Try.func233 rfl Try.ntmps233 Try.results233 rfl rfl fun hO => ?_
  unfold f233 at hk
  refine wpL_sq ?_
  refine wpL_rg ?_
  refine pBox (cs := [_, _, _]) hO tZ271 (fun b1 G hO => ?_)
  refine pBox (cs := [_, _, _]) hO tZ271 (fun b2 G hO => ?_)
  refine pA (.bool _) ?_
  refine pE ?_
  refine gn ?_
  refine wpL_sq ?_
  refine wpL_sq ?_
  refine wpL_rg ?_
  refine pF tF271_0 ?_
  refine pLo hO 1 (.int _ _) tA3 ?_
  refine pF tF271_0 ?_
  refine pLo hO 0 (.int _ _) tA3 ?_
  refine pBi ?_
  refine pE ?_
  refine gn ?_
  refine wpL_cd (b := (aA0.Piece != aB1.Piece)) (fun hb => ?_) (fun hb => ?_)
  · replace hk := ct hb hk
    refine wpL_sq ?_
    refine wpL_rg ?_
    refine pA (.bool _) ?_
    refine pE ?_
    refine gn ?_
    refine wpL_rt ?_
    refine gr ?_
    replace hk := Option.some.inj hk; subst hk; exact fin0 hO
  · replace hk := cf hb hk
    refine wpL_sk ?_
    refine gn ?_
    refine wpL_sq ?_
    refine wpL_sq ?_
    refine wpL_rg ?_
    refine pF tF271_1 ?_
    refine pLo hO 1 (.int _ _) tA3 ?_
    refine pF tF271_1 ?_
    refine pLo hO 0 (.int _ _) tA3 ?_
    refine pBi ?_
    refine pE ?_
    refine gn ?_
    refine wpL_cd (b := (aA0.From != aB1.From)) (fun hb => ?_) (fun hb => ?_)
    · replace hk := ct hb hk
      refine wpL_sq ?_
      refine wpL_rg ?_
      refine pA (.bool _) ?_
      refine pE ?_
      refine gn ?_
      refine wpL_rt ?_
      refine gr ?_
      replace hk := Option.some.inj hk; subst hk; exact fin0 hO
    · replace hk := cf hb hk
      refine wpL_sk ?_
      refine gn ?_
      refine wpL_sq ?_
      refine wpL_sq ?_
      refine wpL_rg ?_
      refine pF tF271_2 ?_
      refine pLo hO 1 (.int _ _) tA3 ?_
      refine pF tF271_2 ?_
      refine pLo hO 0 (.int _ _) tA3 ?_
      refine pBi ?_
      refine pE ?_
      refine gn ?_
      refine wpL_cd (b := (aA0.To != aB1.To)) (fun hb => ?_) (fun hb => ?_)
      · replace hk := ct hb hk
        refine wpL_sq ?_
        refine wpL_rg ?_
        refine pA (.bool _) ?_
        refine pE ?_
        refine gn ?_
        refine wpL_rt ?_
        refine gr ?_
        replace hk := Option.some.inj hk; subst hk; exact fin0 hO
      · replace hk := cf hb hk
        refine wpL_sk ?_
        refine gn ?_
        refine wpL_sq ?_
        refine wpL_rg ?_
        refine pA (.bool _) ?_
        refine pE ?_
        refine gn ?_
        refine wpL_rt ?_
        replace hk := Option.some.inj hk; subst hk; exact fin0 hO
/-- laws.eqPartS -/
def f112_L1 (aA0 : List Part) (aB1 : List Part) : Int → Option (Int ⊕ Bool) := fun s =>
  (bif decide (s < (aA0.length : Int)) then ((getI aA0 s).bind fun c2 => ((getI aB1 s).bind fun c3 => ((f233 c2 c3).bind fun v4 => (bif !v4 then ((some false).map Sum.inr) else some (.inl (w64 (s + (1:Int)))))))) else ((some true).map Sum.inr))
def f112 (aA0 : List Part) (aB1 : List Part) : Option Bool :=
  (bif ((aA0.length : Int) != (aB1.length : Int)) then some false else (loopO (f112_L1 aA0 aB1) ((0:Int))))
theorem f112_run {aA0 : List Part} {aB1 : List Part} {r : Bool} {l1 l2 : Nat} {H : Heap} {lk : Lk} (hk : f112 aA0 aB1 = some r) (hlk : 0 < lk.length := by simp) : runL Try.prog hh 112 [.lit l1 aA0.length ((flatL 0) aA0), .lit l2 aB1.length ((flatL 0) aB1)] H lk = some (.bool r, H) := by
  refine run_start Try.func112 rfl Try.ntmps112 Try.results112 rfl rfl fun hO => ?_
  unfold f112 at hk
  refine wpL_sq ?_
  refine wpL_rg ?_
  refine pA (.bool _) ?_
  refine pE ?_
  refine gn ?_
  refine wpL_sq ?_
  refine wpL_sq ?_
  refine wpL_rg ?_
  refine pM (.lit _ _ _) ?_
  refine pLen tS65 ?_
  refine pM (.lit _ _ _) ?_
  refine pLen tS65 ?_
  refine pBi ?_
  refine pE ?_
  refine gn ?_
  refine wpL_cd (b := ((aA0.length : Int) != (aB1.length : Int))) (fun hb => ?_) (fun hb => ?_)
  · replace hk := ct hb hk
    refine wpL_sq ?_
    refine wpL_rg ?_
    refine pA (.bool _) ?_
    refine pE ?_
    refine gn ?_
    refine wpL_rt ?_
    refine gr ?_
    replace hk := Option.some.inj hk; subst hk; exact fin0 hO
  · replace hk := cf hb hk
    refine wpL_sk ?_
    refine gn ?_
    refine wpL_sq ?_
    refine wpL_sq ?_
    refine wpL_rg ?_
    refine pA (.int _ _) ?_
    refine pE ?_
    refine gn ?_
    refine wpL_bl ?_
    refine wpL_loopO (F := f112_L1 aA0 aB1) (fun s S' => ∃ (J : Nat → V) (G : Heap), Owns H G [] ∧ S' = ⟨hav [(0, .lit l1 aA0.length ((flatL 0) aA0)), (1, .lit l2 aB1.length ((flatL 0) aB1)), (5, .int .i64 s)] J, G⟩) hk ⟨_, _, hO, St.hav _ ⟨rfl, rfl, rfl, trivial⟩⟩ ?_
    rintro x1 _ y1 ⟨J, G, hO, rfl⟩ hk hx1
    refine wpL_sq ?_
    refine wpL_sq ?_
    refine wpL_rg ?_
    refine pM (.int _ _) ?_
    refine pM (.lit _ _ _) ?_
    refine pLen tS65 ?_
    refine pBi ?_
    refine pE ?_
    refine gn ?_
    refine wpL_cd (b := decide (x1 < (aA0.length : Int))) (fun hb => ?_) (fun hb => ?_)
    · replace hk := ct hb hk
      refine wpL_sk ?_
      refine gn ?_
      refine wpL_sq ?_
      refine wpL_bl ?_
      refine wpL_sq ?_
      refine wpL_drw [(0, true), (1, true), (2, true), (3, true), (4, true), (5, true), (6, true), (7, true), (8, false), (9, false)] [_, _, _, _, _, _, _, _, _, _] (by decide +kernel) (by rfl) ?_
      refine pM (.lit _ _ _) ?_
      refine pM (.int _ _) ?_
      obtain ⟨c2, hc2, hk⟩ := bs hk
      refine pX hc2 tE65 tZ271 ?_
      refine pLp (.agg [_, _, _]) (rd2 (lm := 0) (off := 0) hc2 tA271 tZ271) ?_
      refine pM (.lit _ _ _) ?_
      refine pM (.int _ _) ?_
      obtain ⟨c3, hc3, hk⟩ := bs hk
      refine pX hc3 tE65 tZ271 ?_
      refine pLp (.agg [_, _, _]) (rd2 (lm := 0) (off := 0) hc3 tA271 tZ271) ?_
      obtain ⟨v4, hv4, hk⟩ := bs hk
      refine pCall (fun _ => f233_run hv4) ?_
      refine pU ?_
      refine pE ?_
      refine gn ?_
      refine wpL_cd (b := !v4) (fun hb => ?_) (fun hb => ?_)
      · replace hk := ct hb hk
        refine wpL_sq ?_
        refine wpL_rg ?_
        refine pA (.bool _) ?_
        refine pE ?_
        refine gn ?_
        refine wpL_rt ?_
        refine br (gr (gr (br (gr ?_))))
        replace hk := lx hx1 hk
        replace hk := Option.some.inj hk; subst hk; exact fin0 hO
      · replace hk := cf hb hk
        refine wpL_sk ?_
        refine bn (gn ?_)
        refine wpL_rg ?_
        refine pM (.int _ _) ?_
        refine pBi ?_
        refine pA (.int _ _) ?_
        refine pE ?_
        refine gn ?_
        cases hk; exact ⟨_, rfl, _, _, hO, St.hav _ ⟨rfl, rfl, rfl, trivial⟩⟩
    · replace hk := cf hb hk
      refine wpL_ex ?_
      refine ge (ge (be (gn ?_)))
      replace hk := lx hx1 hk
      refine wpL_sq ?_
      refine wpL_rg ?_
      refine pA (.bool _) ?_
      refine pE ?_
      refine gn ?_
      refine wpL_rt ?_
      replace hk := Option.some.inj hk; subst hk; exact fin0 hO
/-- laws.eqFlank -/
def f265 (aA0 : Flank) (aB1 : Flank) : Option Bool :=
  (bif (aA0.At != aB1.At) then some false else (bif (aA0.Kind != aB1.Kind) then some false else (bif (aA0.Of != aB1.Of) then some false else (bif (aA0.Lie != aB1.Lie) then some false else some true))))
theorem f265_run {aA0 : Flank} {aB1 : Flank} {r : Bool} {H : Heap} {lk : Lk} (hk : f265 aA0 aB1 = some r) (hlk : 0 < lk.length := by simp) : runL Try.prog hh 265 [.agg [.int .i64 aA0.At, .int .i64 aA0.Kind, .int .i64 aA0.Of, .int .i64 aA0.Lie], .agg [.int .i64 aB1.At, .int .i64 aB1.Kind, .int .i64 aB1.Of, .int .i64 aB1.Lie]] H lk = some (.bool r, H) := by
  refine run_start Try.func265 rfl Try.ntmps265 Try.results265 rfl rfl fun hO => ?_
  unfold f265 at hk
  refine wpL_sq ?_
  refine wpL_rg ?_
  refine pBox (cs := [_, _, _, _]) hO tZ287 (fun b1 G hO => ?_)
  refine pBox (cs := [_, _, _, _]) hO tZ287 (fun b2 G hO => ?_)
  refine pA (.bool _) ?_
  refine pE ?_
  refine gn ?_
  refine wpL_sq ?_
  refine wpL_sq ?_
  refine wpL_rg ?_
  refine pF tF287_0 ?_
  refine pLo hO 1 (.int _ _) tA3 ?_
  refine pF tF287_0 ?_
  refine pLo hO 0 (.int _ _) tA3 ?_
  refine pBi ?_
  refine pE ?_
  refine gn ?_
  refine wpL_cd (b := (aA0.At != aB1.At)) (fun hb => ?_) (fun hb => ?_)
  · replace hk := ct hb hk
    refine wpL_sq ?_
    refine wpL_rg ?_
    refine pA (.bool _) ?_
    refine pE ?_
    refine gn ?_
    refine wpL_rt ?_
    refine gr ?_
    replace hk := Option.some.inj hk; subst hk; exact fin0 hO
  · replace hk := cf hb hk
    refine wpL_sk ?_
    refine gn ?_
    refine wpL_sq ?_
    refine wpL_sq ?_
    refine wpL_rg ?_
    refine pF tF287_1 ?_
    refine pLo hO 1 (.int _ _) tA3 ?_
    refine pF tF287_1 ?_
    refine pLo hO 0 (.int _ _) tA3 ?_
    refine pBi ?_
    refine pE ?_
    refine gn ?_
    refine wpL_cd (b := (aA0.Kind != aB1.Kind)) (fun hb => ?_) (fun hb => ?_)
    · replace hk := ct hb hk
      refine wpL_sq ?_
      refine wpL_rg ?_
      refine pA (.bool _) ?_
      refine pE ?_
      refine gn ?_
      refine wpL_rt ?_
      refine gr ?_
      replace hk := Option.some.inj hk; subst hk; exact fin0 hO
    · replace hk := cf hb hk
      refine wpL_sk ?_
      refine gn ?_
      refine wpL_sq ?_
      refine wpL_sq ?_
      refine wpL_rg ?_
      refine pF tF287_2 ?_
      refine pLo hO 1 (.int _ _) tA3 ?_
      refine pF tF287_2 ?_
      refine pLo hO 0 (.int _ _) tA3 ?_
      refine pBi ?_
      refine pE ?_
      refine gn ?_
      refine wpL_cd (b := (aA0.Of != aB1.Of)) (fun hb => ?_) (fun hb => ?_)
      · replace hk := ct hb hk
        refine wpL_sq ?_
        refine wpL_rg ?_
        refine pA (.bool _) ?_
        refine pE ?_
        refine gn ?_
        refine wpL_rt ?_
        refine gr ?_
        replace hk := Option.some.inj hk; subst hk; exact fin0 hO
      · replace hk := cf hb hk
        refine wpL_sk ?_
        refine gn ?_
        refine wpL_sq ?_
        refine wpL_sq ?_
        refine wpL_rg ?_
        refine pF tF287_3 ?_
        refine pLo hO 1 (.int _ _) tA3 ?_
        refine pF tF287_3 ?_
        refine pLo hO 0 (.int _ _) tA3 ?_
        refine pBi ?_
        refine pE ?_
        refine gn ?_
        refine wpL_cd (b := (aA0.Lie != aB1.Lie)) (fun hb => ?_) (fun hb => ?_)
        · replace hk := ct hb hk
          refine wpL_sq ?_
          refine wpL_rg ?_
          refine pA (.bool _) ?_
          refine pE ?_
          refine gn ?_
          refine wpL_rt ?_
          refine gr ?_
          replace hk := Option.some.inj hk; subst hk; exact fin0 hO
        · replace hk := cf hb hk
          refine wpL_sk ?_
          refine gn ?_
          refine wpL_sq ?_
          refine wpL_rg ?_
          refine pA (.bool _) ?_
          refine pE ?_
          refine gn ?_
          refine wpL_rt ?_
          replace hk := Option.some.inj hk; subst hk; exact fin0 hO
/-- laws.eqFlankS -/
def f165_L1 (aA0 : List Flank) (aB1 : List Flank) : Int → Option (Int ⊕ Bool) := fun s =>
  (bif decide (s < (aA0.length : Int)) then ((getI aA0 s).bind fun c2 => ((getI aB1 s).bind fun c3 => ((f265 c2 c3).bind fun v4 => (bif !v4 then ((some false).map Sum.inr) else some (.inl (w64 (s + (1:Int)))))))) else ((some true).map Sum.inr))
def f165 (aA0 : List Flank) (aB1 : List Flank) : Option Bool :=
  (bif ((aA0.length : Int) != (aB1.length : Int)) then some false else (loopO (f165_L1 aA0 aB1) ((0:Int))))
theorem f165_run {aA0 : List Flank} {aB1 : List Flank} {r : Bool} {l1 l2 : Nat} {H : Heap} {lk : Lk} (hk : f165 aA0 aB1 = some r) (hlk : 0 < lk.length := by simp) : runL Try.prog hh 165 [.lit l1 aA0.length ((flatL 0) aA0), .lit l2 aB1.length ((flatL 0) aB1)] H lk = some (.bool r, H) := by
  refine run_start Try.func165 rfl Try.ntmps165 Try.results165 rfl rfl fun hO => ?_
  unfold f165 at hk
  refine wpL_sq ?_
  refine wpL_rg ?_
  refine pA (.bool _) ?_
  refine pE ?_
  refine gn ?_
  refine wpL_sq ?_
  refine wpL_sq ?_
  refine wpL_rg ?_
  refine pM (.lit _ _ _) ?_
  refine pLen tS66 ?_
  refine pM (.lit _ _ _) ?_
  refine pLen tS66 ?_
  refine pBi ?_
  refine pE ?_
  refine gn ?_
  refine wpL_cd (b := ((aA0.length : Int) != (aB1.length : Int))) (fun hb => ?_) (fun hb => ?_)
  · replace hk := ct hb hk
    refine wpL_sq ?_
    refine wpL_rg ?_
    refine pA (.bool _) ?_
    refine pE ?_
    refine gn ?_
    refine wpL_rt ?_
    refine gr ?_
    replace hk := Option.some.inj hk; subst hk; exact fin0 hO
  · replace hk := cf hb hk
    refine wpL_sk ?_
    refine gn ?_
    refine wpL_sq ?_
    refine wpL_sq ?_
    refine wpL_rg ?_
    refine pA (.int _ _) ?_
    refine pE ?_
    refine gn ?_
    refine wpL_bl ?_
    refine wpL_loopO (F := f165_L1 aA0 aB1) (fun s S' => ∃ (J : Nat → V) (G : Heap), Owns H G [] ∧ S' = ⟨hav [(0, .lit l1 aA0.length ((flatL 0) aA0)), (1, .lit l2 aB1.length ((flatL 0) aB1)), (5, .int .i64 s)] J, G⟩) hk ⟨_, _, hO, St.hav _ ⟨rfl, rfl, rfl, trivial⟩⟩ ?_
    rintro x1 _ y1 ⟨J, G, hO, rfl⟩ hk hx1
    refine wpL_sq ?_
    refine wpL_sq ?_
    refine wpL_rg ?_
    refine pM (.int _ _) ?_
    refine pM (.lit _ _ _) ?_
    refine pLen tS66 ?_
    refine pBi ?_
    refine pE ?_
    refine gn ?_
    refine wpL_cd (b := decide (x1 < (aA0.length : Int))) (fun hb => ?_) (fun hb => ?_)
    · replace hk := ct hb hk
      refine wpL_sk ?_
      refine gn ?_
      refine wpL_sq ?_
      refine wpL_bl ?_
      refine wpL_sq ?_
      refine wpL_drw [(0, true), (1, true), (2, true), (3, true), (4, true), (5, true), (6, true), (7, true), (8, false), (9, false)] [_, _, _, _, _, _, _, _, _, _] (by decide +kernel) (by rfl) ?_
      refine pM (.lit _ _ _) ?_
      refine pM (.int _ _) ?_
      obtain ⟨c2, hc2, hk⟩ := bs hk
      refine pX hc2 tE66 tZ287 ?_
      refine pLp (.agg [_, _, _, _]) (rd2 (lm := 0) (off := 0) hc2 tA287 tZ287) ?_
      refine pM (.lit _ _ _) ?_
      refine pM (.int _ _) ?_
      obtain ⟨c3, hc3, hk⟩ := bs hk
      refine pX hc3 tE66 tZ287 ?_
      refine pLp (.agg [_, _, _, _]) (rd2 (lm := 0) (off := 0) hc3 tA287 tZ287) ?_
      obtain ⟨v4, hv4, hk⟩ := bs hk
      refine pCall (fun _ => f265_run hv4) ?_
      refine pU ?_
      refine pE ?_
      refine gn ?_
      refine wpL_cd (b := !v4) (fun hb => ?_) (fun hb => ?_)
      · replace hk := ct hb hk
        refine wpL_sq ?_
        refine wpL_rg ?_
        refine pA (.bool _) ?_
        refine pE ?_
        refine gn ?_
        refine wpL_rt ?_
        refine br (gr (gr (br (gr ?_))))
        replace hk := lx hx1 hk
        replace hk := Option.some.inj hk; subst hk; exact fin0 hO
      · replace hk := cf hb hk
        refine wpL_sk ?_
        refine bn (gn ?_)
        refine wpL_rg ?_
        refine pM (.int _ _) ?_
        refine pBi ?_
        refine pA (.int _ _) ?_
        refine pE ?_
        refine gn ?_
        cases hk; exact ⟨_, rfl, _, _, hO, St.hav _ ⟨rfl, rfl, rfl, trivial⟩⟩
    · replace hk := cf hb hk
      refine wpL_ex ?_
      refine ge (ge (be (gn ?_)))
      replace hk := lx hx1 hk
      refine wpL_sq ?_
      refine wpL_rg ?_
      refine pA (.bool _) ?_
      refine pE ?_
      refine gn ?_
      refine wpL_rt ?_
      replace hk := Option.some.inj hk; subst hk; exact fin0 hO
/-- laws.eqRoute -/
def f50 (aA0 : Route) (aB1 : Route) : Option Bool :=
  (bif (aA0.From != aB1.From) then some false else (bif (aA0.To != aB1.To) then some false else ((f163 aA0.Steps aB1.Steps).bind fun v3 => (bif !v3 then some false else ((f164 aA0.Lies aB1.Lies).bind fun v4 => (bif !v4 then some false else ((f28 aA0.Crosses aB1.Crosses).bind fun v5 => (bif !v5 then some false else ((f112 aA0.Parts aB1.Parts).bind fun v6 => (bif !v6 then some false else ((f112 aA0.Over aB1.Over).bind fun v7 => (bif !v7 then some false else ((f165 aA0.Flanks aB1.Flanks).bind fun v8 => (bif !v8 then some false else some true))))))))))))))
theorem f50_run {aA0 : Route} {aB1 : Route} {r : Bool} {l1 l2 l3 l4 l5 l6 l7 l8 l9 l10 l11 l12 : Nat} {H : Heap} {lk : Lk} (hk : f50 aA0 aB1 = some r) (hlk : 0 < lk.length := by simp) : runL Try.prog hh 50 [.agg [.int .i64 aA0.From, .int .i64 aA0.To, .lit l1 aA0.Steps.length ((flatL 0) aA0.Steps), .lit l2 aA0.Lies.length ((flatL 0) aA0.Lies), .lit l3 aA0.Crosses.length ((flatL 0) aA0.Crosses), .lit l4 aA0.Parts.length ((flatL 0) aA0.Parts), .lit l5 aA0.Over.length ((flatL 0) aA0.Over), .lit l6 aA0.Flanks.length ((flatL 0) aA0.Flanks)], .agg [.int .i64 aB1.From, .int .i64 aB1.To, .lit l7 aB1.Steps.length ((flatL 0) aB1.Steps), .lit l8 aB1.Lies.length ((flatL 0) aB1.Lies), .lit l9 aB1.Crosses.length ((flatL 0) aB1.Crosses), .lit l10 aB1.Parts.length ((flatL 0) aB1.Parts), .lit l11 aB1.Over.length ((flatL 0) aB1.Over), .lit l12 aB1.Flanks.length ((flatL 0) aB1.Flanks)]] H lk = some (.bool r, H) := by
  refine run_start Try.func50 rfl Try.ntmps50 Try.results50 rfl rfl fun hO => ?_
  unfold f50 at hk
  refine wpL_sq ?_
  refine wpL_rg ?_
  refine pBox (cs := [_, _, _, _, _, _, _, _]) hO tZ68 (fun b1 G hO => ?_)
  refine pBox (cs := [_, _, _, _, _, _, _, _]) hO tZ68 (fun b2 G hO => ?_)
  refine pA (.bool _) ?_
  refine pE ?_
  refine gn ?_
  refine wpL_sq ?_
  refine wpL_sq ?_
  refine wpL_rg ?_
  refine pF tF68_0 ?_
  refine pLo hO 1 (.int _ _) tA3 ?_
  refine pF tF68_0 ?_
  refine pLo hO 0 (.int _ _) tA3 ?_
  refine pBi ?_
  refine pE ?_
  refine gn ?_
  refine wpL_cd (b := (aA0.From != aB1.From)) (fun hb => ?_) (fun hb => ?_)
  · replace hk := ct hb hk
    refine wpL_sq ?_
    refine wpL_rg ?_
    refine pA (.bool _) ?_
    refine pE ?_
    refine gn ?_
    refine wpL_rt ?_
    refine gr ?_
    replace hk := Option.some.inj hk; subst hk; exact fin0 hO
  · replace hk := cf hb hk
    refine wpL_sk ?_
    refine gn ?_
    refine wpL_sq ?_
    refine wpL_sq ?_
    refine wpL_rg ?_
    refine pF tF68_1 ?_
    refine pLo hO 1 (.int _ _) tA3 ?_
    refine pF tF68_1 ?_
    refine pLo hO 0 (.int _ _) tA3 ?_
    refine pBi ?_
    refine pE ?_
    refine gn ?_
    refine wpL_cd (b := (aA0.To != aB1.To)) (fun hb => ?_) (fun hb => ?_)
    · replace hk := ct hb hk
      refine wpL_sq ?_
      refine wpL_rg ?_
      refine pA (.bool _) ?_
      refine pE ?_
      refine gn ?_
      refine wpL_rt ?_
      refine gr ?_
      replace hk := Option.some.inj hk; subst hk; exact fin0 hO
    · replace hk := cf hb hk
      refine wpL_sk ?_
      refine gn ?_
      refine wpL_sq ?_
      refine wpL_sq ?_
      refine wpL_rg ?_
      refine pF tF68_2 ?_
      refine pLo hO 1 (.lit _ _ _) tA63 ?_
      refine pF tF68_2 ?_
      refine pLo hO 0 (.lit _ _ _) tA63 ?_
      obtain ⟨v3, hv3, hk⟩ := bs hk
      refine pCall (fun _ => f163_run hv3) ?_
      refine pU ?_
      refine pE ?_
      refine gn ?_
      refine wpL_cd (b := !v3) (fun hb => ?_) (fun hb => ?_)
      · replace hk := ct hb hk
        refine wpL_sq ?_
        refine wpL_rg ?_
        refine pA (.bool _) ?_
        refine pE ?_
        refine gn ?_
        refine wpL_rt ?_
        refine gr ?_
        replace hk := Option.some.inj hk; subst hk; exact fin0 hO
      · replace hk := cf hb hk
        refine wpL_sk ?_
        refine gn ?_
        refine wpL_sq ?_
        refine wpL_sq ?_
        refine wpL_rg ?_
        refine pF tF68_3 ?_
        refine pLo hO 1 (.lit _ _ _) tA64 ?_
        refine pF tF68_3 ?_
        refine pLo hO 0 (.lit _ _ _) tA64 ?_
        obtain ⟨v4, hv4, hk⟩ := bs hk
        refine pCall (fun _ => f164_run hv4) ?_
        refine pU ?_
        refine pE ?_
        refine gn ?_
        refine wpL_cd (b := !v4) (fun hb => ?_) (fun hb => ?_)
        · replace hk := ct hb hk
          refine wpL_sq ?_
          refine wpL_rg ?_
          refine pA (.bool _) ?_
          refine pE ?_
          refine gn ?_
          refine wpL_rt ?_
          refine gr ?_
          replace hk := Option.some.inj hk; subst hk; exact fin0 hO
        · replace hk := cf hb hk
          refine wpL_sk ?_
          refine gn ?_
          refine wpL_sq ?_
          refine wpL_sq ?_
          refine wpL_rg ?_
          refine pF tF68_4 ?_
          refine pLo hO 1 (.lit _ _ _) tA26 ?_
          refine pF tF68_4 ?_
          refine pLo hO 0 (.lit _ _ _) tA26 ?_
          obtain ⟨v5, hv5, hk⟩ := bs hk
          refine pCall (fun _ => f28_run hv5) ?_
          refine pU ?_
          refine pE ?_
          refine gn ?_
          refine wpL_cd (b := !v5) (fun hb => ?_) (fun hb => ?_)
          · replace hk := ct hb hk
            refine wpL_sq ?_
            refine wpL_rg ?_
            refine pA (.bool _) ?_
            refine pE ?_
            refine gn ?_
            refine wpL_rt ?_
            refine gr ?_
            replace hk := Option.some.inj hk; subst hk; exact fin0 hO
          · replace hk := cf hb hk
            refine wpL_sk ?_
            refine gn ?_
            refine wpL_sq ?_
            refine wpL_sq ?_
            refine wpL_rg ?_
            refine pF tF68_5 ?_
            refine pLo hO 1 (.lit _ _ _) tA65 ?_
            refine pF tF68_5 ?_
            refine pLo hO 0 (.lit _ _ _) tA65 ?_
            obtain ⟨v6, hv6, hk⟩ := bs hk
            refine pCall (fun _ => f112_run hv6) ?_
            refine pU ?_
            refine pE ?_
            refine gn ?_
            refine wpL_cd (b := !v6) (fun hb => ?_) (fun hb => ?_)
            · replace hk := ct hb hk
              refine wpL_sq ?_
              refine wpL_rg ?_
              refine pA (.bool _) ?_
              refine pE ?_
              refine gn ?_
              refine wpL_rt ?_
              refine gr ?_
              replace hk := Option.some.inj hk; subst hk; exact fin0 hO
            · replace hk := cf hb hk
              refine wpL_sk ?_
              refine gn ?_
              refine wpL_sq ?_
              refine wpL_sq ?_
              refine wpL_rg ?_
              refine pF tF68_6 ?_
              refine pLo hO 1 (.lit _ _ _) tA65 ?_
              refine pF tF68_6 ?_
              refine pLo hO 0 (.lit _ _ _) tA65 ?_
              obtain ⟨v7, hv7, hk⟩ := bs hk
              refine pCall (fun _ => f112_run hv7) ?_
              refine pU ?_
              refine pE ?_
              refine gn ?_
              refine wpL_cd (b := !v7) (fun hb => ?_) (fun hb => ?_)
              · replace hk := ct hb hk
                refine wpL_sq ?_
                refine wpL_rg ?_
                refine pA (.bool _) ?_
                refine pE ?_
                refine gn ?_
                refine wpL_rt ?_
                refine gr ?_
                replace hk := Option.some.inj hk; subst hk; exact fin0 hO
              · replace hk := cf hb hk
                refine wpL_sk ?_
                refine gn ?_
                refine wpL_sq ?_
                refine wpL_sq ?_
                refine wpL_rg ?_
                refine pF tF68_7 ?_
                refine pLo hO 1 (.lit _ _ _) tA66 ?_
                refine pF tF68_7 ?_
                refine pLo hO 0 (.lit _ _ _) tA66 ?_
                obtain ⟨v8, hv8, hk⟩ := bs hk
                refine pCall (fun _ => f165_run hv8) ?_
                refine pU ?_
                refine pE ?_
                refine gn ?_
                refine wpL_cd (b := !v8) (fun hb => ?_) (fun hb => ?_)
                · replace hk := ct hb hk
                  refine wpL_sq ?_
                  refine wpL_rg ?_
                  refine pA (.bool _) ?_
                  refine pE ?_
                  refine gn ?_
                  refine wpL_rt ?_
                  refine gr ?_
                  replace hk := Option.some.inj hk; subst hk; exact fin0 hO
                · replace hk := cf hb hk
                  refine wpL_sk ?_
                  refine gn ?_
                  refine wpL_sq ?_
                  refine wpL_rg ?_
                  refine pA (.bool _) ?_
                  refine pE ?_
                  refine gn ?_
                  refine wpL_rt ?_
                  replace hk := Option.some.inj hk; subst hk; exact fin0 hO
/-- laws.eqRouteS -/
def f65_L1 (aA0 : List Route) (aB1 : List Route) : Int → Option (Int ⊕ Bool) := fun s =>
  (bif decide (s < (aA0.length : Int)) then ((getI aA0 s).bind fun c2 => ((getI aB1 s).bind fun c3 => ((f50 c2 c3).bind fun v4 => (bif !v4 then ((some false).map Sum.inr) else some (.inl (w64 (s + (1:Int)))))))) else ((some true).map Sum.inr))
def f65 (aA0 : List Route) (aB1 : List Route) : Option Bool :=
  (bif ((aA0.length : Int) != (aB1.length : Int)) then some false else (loopO (f65_L1 aA0 aB1) ((0:Int))))
theorem f65_run {aA0 : List Route} {aB1 : List Route} {r : Bool} {l1 m2 l3 m4 : Nat} {H : Heap} {lk : Lk} (hk : f65 aA0 aB1 = some r) (hlk : 0 < lk.length := by simp) : runL Try.prog hh 65 [.lit l1 aA0.length (flatL m2 aA0), .lit l3 aB1.length (flatL m4 aB1)] H lk = some (.bool r, H) := by
  refine run_start Try.func65 rfl Try.ntmps65 Try.results65 rfl rfl fun hO => ?_
  unfold f65 at hk
  refine wpL_sq ?_
  refine wpL_rg ?_
  refine pA (.bool _) ?_
  refine pE ?_
  refine gn ?_
  refine wpL_sq ?_
  refine wpL_sq ?_
  refine wpL_rg ?_
  refine pM (.lit _ _ _) ?_
  refine pLen tS96 ?_
  refine pM (.lit _ _ _) ?_
  refine pLen tS96 ?_
  refine pBi ?_
  refine pE ?_
  refine gn ?_
  refine wpL_cd (b := ((aA0.length : Int) != (aB1.length : Int))) (fun hb => ?_) (fun hb => ?_)
  · replace hk := ct hb hk
    refine wpL_sq ?_
    refine wpL_rg ?_
    refine pA (.bool _) ?_
    refine pE ?_
    refine gn ?_
    refine wpL_rt ?_
    refine gr ?_
    replace hk := Option.some.inj hk; subst hk; exact fin0 hO
  · replace hk := cf hb hk
    refine wpL_sk ?_
    refine gn ?_
    refine wpL_sq ?_
    refine wpL_sq ?_
    refine wpL_rg ?_
    refine pA (.int _ _) ?_
    refine pE ?_
    refine gn ?_
    refine wpL_bl ?_
    refine wpL_loopO (F := f65_L1 aA0 aB1) (fun s S' => ∃ (J : Nat → V) (G : Heap), Owns H G [] ∧ S' = ⟨hav [(0, .lit l1 aA0.length (flatL m2 aA0)), (1, .lit l3 aB1.length (flatL m4 aB1)), (5, .int .i64 s)] J, G⟩) hk ⟨_, _, hO, St.hav _ ⟨rfl, rfl, rfl, trivial⟩⟩ ?_
    rintro x1 _ y1 ⟨J, G, hO, rfl⟩ hk hx1
    refine wpL_sq ?_
    refine wpL_sq ?_
    refine wpL_rg ?_
    refine pM (.int _ _) ?_
    refine pM (.lit _ _ _) ?_
    refine pLen tS96 ?_
    refine pBi ?_
    refine pE ?_
    refine gn ?_
    refine wpL_cd (b := decide (x1 < (aA0.length : Int))) (fun hb => ?_) (fun hb => ?_)
    · replace hk := ct hb hk
      refine wpL_sk ?_
      refine gn ?_
      refine wpL_sq ?_
      refine wpL_bl ?_
      refine wpL_sq ?_
      refine wpL_drw [(0, true), (1, true), (2, true), (3, true), (4, true), (5, true), (6, true), (7, true), (8, false), (9, false)] [_, _, _, _, _, _, _, _, _, _] (by decide +kernel) (by rfl) ?_
      refine pM (.lit _ _ _) ?_
      refine pM (.int _ _) ?_
      obtain ⟨c2, hc2, hk⟩ := bs hk
      refine pX hc2 tE96 tZ68 ?_
      refine pLp (.agg [_, _, _, _, _, _, _, _]) (rd2 (lm := m2) (off := 0) hc2 tA68 tZ68) ?_
      refine pM (.lit _ _ _) ?_
      refine pM (.int _ _) ?_
      obtain ⟨c3, hc3, hk⟩ := bs hk
      refine pX hc3 tE96 tZ68 ?_
      refine pLp (.agg [_, _, _, _, _, _, _, _]) (rd2 (lm := m4) (off := 0) hc3 tA68 tZ68) ?_
      obtain ⟨v4, hv4, hk⟩ := bs hk
      refine pCall (fun _ => f50_run hv4) ?_
      refine pU ?_
      refine pE ?_
      refine gn ?_
      refine wpL_cd (b := !v4) (fun hb => ?_) (fun hb => ?_)
      · replace hk := ct hb hk
        refine wpL_sq ?_
        refine wpL_rg ?_
        refine pA (.bool _) ?_
        refine pE ?_
        refine gn ?_
        refine wpL_rt ?_
        refine br (gr (gr (br (gr ?_))))
        replace hk := lx hx1 hk
        replace hk := Option.some.inj hk; subst hk; exact fin0 hO
      · replace hk := cf hb hk
        refine wpL_sk ?_
        refine bn (gn ?_)
        refine wpL_rg ?_
        refine pM (.int _ _) ?_
        refine pBi ?_
        refine pA (.int _ _) ?_
        refine pE ?_
        refine gn ?_
        cases hk; exact ⟨_, rfl, _, _, hO, St.hav _ ⟨rfl, rfl, rfl, trivial⟩⟩
    · replace hk := cf hb hk
      refine wpL_ex ?_
      refine ge (ge (be (gn ?_)))
      replace hk := lx hx1 hk
      refine wpL_sq ?_
      refine wpL_rg ?_
      refine pA (.bool _) ?_
      refine pE ?_
      refine gn ?_
      refine wpL_rt ?_
      replace hk := Option.some.inj hk; subst hk; exact fin0 hO
/-- laws.markStepS -/
def f179_L1 : ((List Step) × Int × Int) → Option (((List Step) × Int × Int) ⊕ (List Step × Int)) := fun s =>
  (bif decide (s.2.2 < (s.1.length : Int)) then ((getI s.1 s.2.2).bind fun c4 => ((getI (s.1.set s.2.2.toNat ({ c4 with Piece := s.2.1 })) s.2.2).bind fun c6 => some (.inl ((s.1.set s.2.2.toNat ({ c4 with Piece := s.2.1 })).set s.2.2.toNat ({ c6 with Way := w64 (s.2.1 + (1:Int)) }), w64 ((w64 (s.2.1 + (1:Int))) + (1:Int)), w64 (s.2.2 + (1:Int)))))) else ((some (s.1, s.2.1)).map Sum.inr))
def f179 (aA0 : List Step) (aK1 : Int) : Option (List Step × Int) :=
  (loopO (f179_L1) (aA0, aK1, (0:Int)))
theorem f179_run {aA0 : List Step} {aK1 : Int} {r : (List Step × Int)} {v0 : V} {F0 : List Nat} {H : Heap} {lk : Lk} (hk : f179 aA0 aK1 = some r) (ha : TrIn H aA0 [v0] F0) (hF : ∀ b ∈ F0, b < H.length) (hS : ∀ b ∈ F0, unlocked lk b = true) (hlk : 0 < lk.length := by simp) : ∃ v H1, runL Try.prog hh 179 [v0, .int .i64 aK1] H lk = some (v, H1) ∧ v = .int .i64 r.2 ∧ TrIn H1 r.1 [v0] F0 ∧ H1.length = H.length ∧ ∀ b, b ∉ F0 → H1[b]? = H[b]? := by
  refine run_startR Try.func179 rfl Try.ntmps179 Try.results179 rfl rfl ?_
  have hO := tree_start ha hF
  have hFr := Sees.refl H F0
  unfold f179 at hk
  refine wpL_sq ?_
  refine wpL_rg ?_
  refine pA (.int _ _) ?_
  refine pE ?_
  refine gn ?_
  refine wpL_sq ?_
  refine wpL_sq ?_
  refine wpL_rg ?_
  refine pA (.int _ _) ?_
  refine pE ?_
  refine gn ?_
  refine wpL_bl ?_
  refine wpL_loopO (F := f179_L1) (fun s S' => ∃ (J : Nat → V) (G : Heap) (H1 : Heap), Sees H H1 F0 ∧ Owns H1 G [Tree F0 F0 s.1 [v0]] ∧ S' = ⟨hav [(0, v0), (1, .int .i64 s.2.1), (5, .int .i64 s.2.2)] J, G⟩) hk ⟨_, _, _, hFr, hO, St.hav _ ⟨rfl, rfl, rfl, trivial⟩⟩ ?_
  rintro ⟨x1, x2, x3⟩ _ y1 ⟨J, G, H1, hFr, hO, rfl⟩ hk hx1
  refine wpL_sq ?_
  refine wpL_sq ?_
  refine wpL_rg ?_
  refine pM (.int _ _) ?_
  refine pM v0 ?_
  refine pLenT hO 0 tS63 ?_
  refine pBi ?_
  refine pE ?_
  refine gn ?_
  refine wpL_cd (b := decide (x3 < (x1.length : Int))) (fun hb => ?_) (fun hb => ?_)
  · replace hk := ct hb hk
    refine wpL_sk ?_
    refine gn ?_
    refine wpL_sq ?_
    refine wpL_bl ?_
    refine wpL_sq ?_
    refine wpL_rg ?_
    refine pM v0 ?_
    refine pM (.int _ _) ?_
    refine pM (.int _ _) ?_
    obtain ⟨c4, hc4, hk⟩ := bs hk
    refine pXT hO 0 hc4 tE63 tZ258 (fun b5 hb5 => ?_)
    refine pF tF258_0 ?_
    refine pST foc_Step_Piece (y' := x2) hO 0 hb5 hc4 tZ3 (fun _ => ⟨rfl, rfl⟩) hFr hS rfl (fun H1 G hFr hO => ?_)
    refine pE ?_
    refine gn ?_
    refine wpL_sq ?_
    refine wpL_rg ?_
    refine pM (.int _ _) ?_
    refine pBi ?_
    refine pA (.int _ _) ?_
    refine pE ?_
    refine gn ?_
    refine wpL_sq ?_
    refine wpL_rg ?_
    refine pM v0 ?_
    refine pM (.int _ _) ?_
    refine pM (.int _ _) ?_
    obtain ⟨c6, hc6, hk⟩ := bs hk
    refine pXT hO 0 hc6 tE63 tZ258 (fun b7 hb7 => ?_)
    refine pF tF258_1 ?_
    refine pST foc_Step_Way (y' := (w64 (x2 + (1:Int)))) hO 0 hb7 hc6 tZ3 (fun _ => ⟨rfl, rfl⟩) hFr hS rfl (fun H1 G hFr hO => ?_)
    refine pE ?_
    refine gn ?_
    refine wpL_rg ?_
    refine pM (.int _ _) ?_
    refine pBi ?_
    refine pA (.int _ _) ?_
    refine pE ?_
    refine bn (gn ?_)
    refine wpL_rg ?_
    refine pM (.int _ _) ?_
    refine pBi ?_
    refine pA (.int _ _) ?_
    refine pE ?_
    refine gn ?_
    cases hk; exact ⟨_, rfl, _, _, _, hFr, hO, St.hav _ ⟨rfl, rfl, rfl, trivial⟩⟩
  · replace hk := cf hb hk
    refine wpL_ex ?_
    refine ge (ge (be (gn ?_)))
    replace hk := lx hx1 hk
    refine wpL_sq ?_
    refine wpL_rg ?_
    refine pM (.int _ _) ?_
    refine pA (.int _ _) ?_
    refine pE ?_
    refine gn ?_
    refine wpL_rt ?_
    replace hk := Option.some.inj hk; subst hk; exact finT hO 0 hFr hF
/-- laws.markLieS -/
def f180_L1 : ((List Lie) × Int × Int) → Option (((List Lie) × Int × Int) ⊕ (List Lie × Int)) := fun s =>
  (bif decide (s.2.2 < (s.1.length : Int)) then ((getI s.1 s.2.2).bind fun c4 => ((getI (s.1.set s.2.2.toNat ({ c4 with Joint := s.2.1 })) s.2.2).bind fun c6 => some (.inl ((s.1.set s.2.2.toNat ({ c4 with Joint := s.2.1 })).set s.2.2.toNat ({ c6 with Lie := w64 (s.2.1 + (1:Int)) }), w64 ((w64 (s.2.1 + (1:Int))) + (1:Int)), w64 (s.2.2 + (1:Int)))))) else ((some (s.1, s.2.1)).map Sum.inr))
def f180 (aA0 : List Lie) (aK1 : Int) : Option (List Lie × Int) :=
  (loopO (f180_L1) (aA0, aK1, (0:Int)))
theorem f180_run {aA0 : List Lie} {aK1 : Int} {r : (List Lie × Int)} {v0 : V} {F0 : List Nat} {H : Heap} {lk : Lk} (hk : f180 aA0 aK1 = some r) (ha : TrIn H aA0 [v0] F0) (hF : ∀ b ∈ F0, b < H.length) (hS : ∀ b ∈ F0, unlocked lk b = true) (hlk : 0 < lk.length := by simp) : ∃ v H1, runL Try.prog hh 180 [v0, .int .i64 aK1] H lk = some (v, H1) ∧ v = .int .i64 r.2 ∧ TrIn H1 r.1 [v0] F0 ∧ H1.length = H.length ∧ ∀ b, b ∉ F0 → H1[b]? = H[b]? := by
  refine run_startR Try.func180 rfl Try.ntmps180 Try.results180 rfl rfl ?_
  have hO := tree_start ha hF
  have hFr := Sees.refl H F0
  unfold f180 at hk
  refine wpL_sq ?_
  refine wpL_rg ?_
  refine pA (.int _ _) ?_
  refine pE ?_
  refine gn ?_
  refine wpL_sq ?_
  refine wpL_sq ?_
  refine wpL_rg ?_
  refine pA (.int _ _) ?_
  refine pE ?_
  refine gn ?_
  refine wpL_bl ?_
  refine wpL_loopO (F := f180_L1) (fun s S' => ∃ (J : Nat → V) (G : Heap) (H1 : Heap), Sees H H1 F0 ∧ Owns H1 G [Tree F0 F0 s.1 [v0]] ∧ S' = ⟨hav [(0, v0), (1, .int .i64 s.2.1), (5, .int .i64 s.2.2)] J, G⟩) hk ⟨_, _, _, hFr, hO, St.hav _ ⟨rfl, rfl, rfl, trivial⟩⟩ ?_
  rintro ⟨x1, x2, x3⟩ _ y1 ⟨J, G, H1, hFr, hO, rfl⟩ hk hx1
  refine wpL_sq ?_
  refine wpL_sq ?_
  refine wpL_rg ?_
  refine pM (.int _ _) ?_
  refine pM v0 ?_
  refine pLenT hO 0 tS64 ?_
  refine pBi ?_
  refine pE ?_
  refine gn ?_
  refine wpL_cd (b := decide (x3 < (x1.length : Int))) (fun hb => ?_) (fun hb => ?_)
  · replace hk := ct hb hk
    refine wpL_sk ?_
    refine gn ?_
    refine wpL_sq ?_
    refine wpL_bl ?_
    refine wpL_sq ?_
    refine wpL_rg ?_
    refine pM v0 ?_
    refine pM (.int _ _) ?_
    refine pM (.int _ _) ?_
    obtain ⟨c4, hc4, hk⟩ := bs hk
    refine pXT hO 0 hc4 tE64 tZ206 (fun b5 hb5 => ?_)
    refine pF tF206_0 ?_
    refine pST foc_Lie_Joint (y' := x2) hO 0 hb5 hc4 tZ3 (fun _ => ⟨rfl, rfl⟩) hFr hS rfl (fun H1 G hFr hO => ?_)
    refine pE ?_
    refine gn ?_
    refine wpL_sq ?_
    refine wpL_rg ?_
    refine pM (.int _ _) ?_
    refine pBi ?_
    refine pA (.int _ _) ?_
    refine pE ?_
    refine gn ?_
    refine wpL_sq ?_
    refine wpL_rg ?_
    refine pM v0 ?_
    refine pM (.int _ _) ?_
    refine pM (.int _ _) ?_
    obtain ⟨c6, hc6, hk⟩ := bs hk
    refine pXT hO 0 hc6 tE64 tZ206 (fun b7 hb7 => ?_)
    refine pF tF206_1 ?_
    refine pST foc_Lie_Lie (y' := (w64 (x2 + (1:Int)))) hO 0 hb7 hc6 tZ3 (fun _ => ⟨rfl, rfl⟩) hFr hS rfl (fun H1 G hFr hO => ?_)
    refine pE ?_
    refine gn ?_
    refine wpL_rg ?_
    refine pM (.int _ _) ?_
    refine pBi ?_
    refine pA (.int _ _) ?_
    refine pE ?_
    refine bn (gn ?_)
    refine wpL_rg ?_
    refine pM (.int _ _) ?_
    refine pBi ?_
    refine pA (.int _ _) ?_
    refine pE ?_
    refine gn ?_
    cases hk; exact ⟨_, rfl, _, _, _, hFr, hO, St.hav _ ⟨rfl, rfl, rfl, trivial⟩⟩
  · replace hk := cf hb hk
    refine wpL_ex ?_
    refine ge (ge (be (gn ?_)))
    replace hk := lx hx1 hk
    refine wpL_sq ?_
    refine wpL_rg ?_
    refine pM (.int _ _) ?_
    refine pA (.int _ _) ?_
    refine pE ?_
    refine gn ?_
    refine wpL_rt ?_
    replace hk := Option.some.inj hk; subst hk; exact finT hO 0 hFr hF
/-- laws.markIntS -/
def f31_L1 : ((List Int) × Int × Int) → Option (((List Int) × Int × Int) ⊕ (List Int × Int)) := fun s =>
  (bif decide (s.2.2 < (s.1.length : Int)) then ((getI s.1 s.2.2).bind fun c4 => some (.inl (s.1.set s.2.2.toNat s.2.1, w64 (s.2.1 + (1:Int)), w64 (s.2.2 + (1:Int))))) else ((some (s.1, s.2.1)).map Sum.inr))
def f31 (aA0 : List Int) (aK1 : Int) : Option (List Int × Int) :=
  (loopO (f31_L1) (aA0, aK1, (0:Int)))
theorem f31_run {aA0 : List Int} {aK1 : Int} {r : (List Int × Int)} {v0 : V} {F0 : List Nat} {H : Heap} {lk : Lk} (hk : f31 aA0 aK1 = some r) (ha : TrIn H aA0 [v0] F0) (hF : ∀ b ∈ F0, b < H.length) (hS : ∀ b ∈ F0, unlocked lk b = true) (hlk : 0 < lk.length := by simp) : ∃ v H1, runL Try.prog hh 31 [v0, .int .i64 aK1] H lk = some (v, H1) ∧ v = .int .i64 r.2 ∧ TrIn H1 r.1 [v0] F0 ∧ H1.length = H.length ∧ ∀ b, b ∉ F0 → H1[b]? = H[b]? := by
  refine run_startR Try.func31 rfl Try.ntmps31 Try.results31 rfl rfl ?_
  have hO := tree_start ha hF
  have hFr := Sees.refl H F0
  unfold f31 at hk
  refine wpL_sq ?_
  refine wpL_rg ?_
  refine pA (.int _ _) ?_
  refine pE ?_
  refine gn ?_
  refine wpL_sq ?_
  refine wpL_sq ?_
  refine wpL_rg ?_
  refine pA (.int _ _) ?_
  refine pE ?_
  refine gn ?_
  refine wpL_bl ?_
  refine wpL_loopO (F := f31_L1) (fun s S' => ∃ (J : Nat → V) (G : Heap) (H1 : Heap), Sees H H1 F0 ∧ Owns H1 G [Tree F0 F0 s.1 [v0]] ∧ S' = ⟨hav [(0, v0), (1, .int .i64 s.2.1), (5, .int .i64 s.2.2)] J, G⟩) hk ⟨_, _, _, hFr, hO, St.hav _ ⟨rfl, rfl, rfl, trivial⟩⟩ ?_
  rintro ⟨x1, x2, x3⟩ _ y1 ⟨J, G, H1, hFr, hO, rfl⟩ hk hx1
  refine wpL_sq ?_
  refine wpL_sq ?_
  refine wpL_rg ?_
  refine pM (.int _ _) ?_
  refine pM v0 ?_
  refine pLenT hO 0 tS26 ?_
  refine pBi ?_
  refine pE ?_
  refine gn ?_
  refine wpL_cd (b := decide (x3 < (x1.length : Int))) (fun hb => ?_) (fun hb => ?_)
  · replace hk := ct hb hk
    refine wpL_sk ?_
    refine gn ?_
    refine wpL_sq ?_
    refine wpL_bl ?_
    refine wpL_sq ?_
    refine wpL_rg ?_
    refine pM v0 ?_
    refine pM (.int _ _) ?_
    refine pM (.int _ _) ?_
    obtain ⟨c4, hc4, hk⟩ := bs hk
    refine pXT hO 0 hc4 tE26 tZ3 (fun b5 hb5 => ?_)
    refine pST (Foc.all (α := Int)) (y' := x2) hO 0 hb5 hc4 tZ3 (fun _ => ⟨rfl, rfl⟩) hFr hS rfl (fun H1 G hFr hO => ?_)
    refine pE ?_
    refine gn ?_
    refine wpL_rg ?_
    refine pM (.int _ _) ?_
    refine pBi ?_
    refine pA (.int _ _) ?_
    refine pE ?_
    refine bn (gn ?_)
    refine wpL_rg ?_
    refine pM (.int _ _) ?_
    refine pBi ?_
    refine pA (.int _ _) ?_
    refine pE ?_
    refine gn ?_
    cases hk; exact ⟨_, rfl, _, _, _, hFr, hO, St.hav _ ⟨rfl, rfl, rfl, trivial⟩⟩
  · replace hk := cf hb hk
    refine wpL_ex ?_
    refine ge (ge (be (gn ?_)))
    replace hk := lx hx1 hk
    refine wpL_sq ?_
    refine wpL_rg ?_
    refine pM (.int _ _) ?_
    refine pA (.int _ _) ?_
    refine pE ?_
    refine gn ?_
    refine wpL_rt ?_
    replace hk := Option.some.inj hk; subst hk; exact finT hO 0 hFr hF
/-- laws.markPartS -/
def f113_L1 : ((List Part) × Int × Int) → Option (((List Part) × Int × Int) ⊕ (List Part × Int)) := fun s =>
  (bif decide (s.2.2 < (s.1.length : Int)) then ((getI s.1 s.2.2).bind fun c4 => ((getI (s.1.set s.2.2.toNat ({ c4 with Piece := s.2.1 })) s.2.2).bind fun c6 => ((getI ((s.1.set s.2.2.toNat ({ c4 with Piece := s.2.1 })).set s.2.2.toNat ({ c6 with From := w64 (s.2.1 + (1:Int)) })) s.2.2).bind fun c8 => some (.inl (((s.1.set s.2.2.toNat ({ c4 with Piece := s.2.1 })).set s.2.2.toNat ({ c6 with From := w64 (s.2.1 + (1:Int)) })).set s.2.2.toNat ({ c8 with To := w64 ((w64 (s.2.1 + (1:Int))) + (1:Int)) }), w64 ((w64 ((w64 (s.2.1 + (1:Int))) + (1:Int))) + (1:Int)), w64 (s.2.2 + (1:Int))))))) else ((some (s.1, s.2.1)).map Sum.inr))
def f113 (aA0 : List Part) (aK1 : Int) : Option (List Part × Int) :=
  (loopO (f113_L1) (aA0, aK1, (0:Int)))
theorem f113_run {aA0 : List Part} {aK1 : Int} {r : (List Part × Int)} {v0 : V} {F0 : List Nat} {H : Heap} {lk : Lk} (hk : f113 aA0 aK1 = some r) (ha : TrIn H aA0 [v0] F0) (hF : ∀ b ∈ F0, b < H.length) (hS : ∀ b ∈ F0, unlocked lk b = true) (hlk : 0 < lk.length := by simp) : ∃ v H1, runL Try.prog hh 113 [v0, .int .i64 aK1] H lk = some (v, H1) ∧ v = .int .i64 r.2 ∧ TrIn H1 r.1 [v0] F0 ∧ H1.length = H.length ∧ ∀ b, b ∉ F0 → H1[b]? = H[b]? := by
  refine run_startR Try.func113 rfl Try.ntmps113 Try.results113 rfl rfl ?_
  have hO := tree_start ha hF
  have hFr := Sees.refl H F0
  unfold f113 at hk
  refine wpL_sq ?_
  refine wpL_rg ?_
  refine pA (.int _ _) ?_
  refine pE ?_
  refine gn ?_
  refine wpL_sq ?_
  refine wpL_sq ?_
  refine wpL_rg ?_
  refine pA (.int _ _) ?_
  refine pE ?_
  refine gn ?_
  refine wpL_bl ?_
  refine wpL_loopO (F := f113_L1) (fun s S' => ∃ (J : Nat → V) (G : Heap) (H1 : Heap), Sees H H1 F0 ∧ Owns H1 G [Tree F0 F0 s.1 [v0]] ∧ S' = ⟨hav [(0, v0), (1, .int .i64 s.2.1), (5, .int .i64 s.2.2)] J, G⟩) hk ⟨_, _, _, hFr, hO, St.hav _ ⟨rfl, rfl, rfl, trivial⟩⟩ ?_
  rintro ⟨x1, x2, x3⟩ _ y1 ⟨J, G, H1, hFr, hO, rfl⟩ hk hx1
  refine wpL_sq ?_
  refine wpL_sq ?_
  refine wpL_rg ?_
  refine pM (.int _ _) ?_
  refine pM v0 ?_
  refine pLenT hO 0 tS65 ?_
  refine pBi ?_
  refine pE ?_
  refine gn ?_
  refine wpL_cd (b := decide (x3 < (x1.length : Int))) (fun hb => ?_) (fun hb => ?_)
  · replace hk := ct hb hk
    refine wpL_sk ?_
    refine gn ?_
    refine wpL_sq ?_
    refine wpL_bl ?_
    refine wpL_sq ?_
    refine wpL_rg ?_
    refine pM v0 ?_
    refine pM (.int _ _) ?_
    refine pM (.int _ _) ?_
    obtain ⟨c4, hc4, hk⟩ := bs hk
    refine pXT hO 0 hc4 tE65 tZ271 (fun b5 hb5 => ?_)
    refine pF tF271_0 ?_
    refine pST foc_Part_Piece (y' := x2) hO 0 hb5 hc4 tZ3 (fun _ => ⟨rfl, rfl⟩) hFr hS rfl (fun H1 G hFr hO => ?_)
    refine pE ?_
    refine gn ?_
    refine wpL_sq ?_
    refine wpL_rg ?_
    refine pM (.int _ _) ?_
    refine pBi ?_
    refine pA (.int _ _) ?_
    refine pE ?_
    refine gn ?_
    refine wpL_sq ?_
    refine wpL_rg ?_
    refine pM v0 ?_
    refine pM (.int _ _) ?_
    refine pM (.int _ _) ?_
    obtain ⟨c6, hc6, hk⟩ := bs hk
    refine pXT hO 0 hc6 tE65 tZ271 (fun b7 hb7 => ?_)
    refine pF tF271_1 ?_
    refine pST foc_Part_From (y' := (w64 (x2 + (1:Int)))) hO 0 hb7 hc6 tZ3 (fun _ => ⟨rfl, rfl⟩) hFr hS rfl (fun H1 G hFr hO => ?_)
    refine pE ?_
    refine gn ?_
    refine wpL_sq ?_
    refine wpL_rg ?_
    refine pM (.int _ _) ?_
    refine pBi ?_
    refine pA (.int _ _) ?_
    refine pE ?_
    refine gn ?_
    refine wpL_sq ?_
    refine wpL_rg ?_
    refine pM v0 ?_
    refine pM (.int _ _) ?_
    refine pM (.int _ _) ?_
    obtain ⟨c8, hc8, hk⟩ := bs hk
    refine pXT hO 0 hc8 tE65 tZ271 (fun b9 hb9 => ?_)
    refine pF tF271_2 ?_
    refine pST foc_Part_To (y' := (w64 ((w64 (x2 + (1:Int))) + (1:Int)))) hO 0 hb9 hc8 tZ3 (fun _ => ⟨rfl, rfl⟩) hFr hS rfl (fun H1 G hFr hO => ?_)
    refine pE ?_
    refine gn ?_
    refine wpL_rg ?_
    refine pM (.int _ _) ?_
    refine pBi ?_
    refine pA (.int _ _) ?_
    refine pE ?_
    refine bn (gn ?_)
    refine wpL_rg ?_
    refine pM (.int _ _) ?_
    refine pBi ?_
    refine pA (.int _ _) ?_
    refine pE ?_
    refine gn ?_
    cases hk; exact ⟨_, rfl, _, _, _, hFr, hO, St.hav _ ⟨rfl, rfl, rfl, trivial⟩⟩
  · replace hk := cf hb hk
    refine wpL_ex ?_
    refine ge (ge (be (gn ?_)))
    replace hk := lx hx1 hk
    refine wpL_sq ?_
    refine wpL_rg ?_
    refine pM (.int _ _) ?_
    refine pA (.int _ _) ?_
    refine pE ?_
    refine gn ?_
    refine wpL_rt ?_
    replace hk := Option.some.inj hk; subst hk; exact finT hO 0 hFr hF
/-- laws.markFlankS -/
def f181_L1 : ((List Flank) × Int × Int) → Option (((List Flank) × Int × Int) ⊕ (List Flank × Int)) := fun s =>
  (bif decide (s.2.2 < (s.1.length : Int)) then ((getI s.1 s.2.2).bind fun c4 => ((getI (s.1.set s.2.2.toNat ({ c4 with At := s.2.1 })) s.2.2).bind fun c6 => ((getI ((s.1.set s.2.2.toNat ({ c4 with At := s.2.1 })).set s.2.2.toNat ({ c6 with Kind := w64 (s.2.1 + (1:Int)) })) s.2.2).bind fun c8 => ((getI (((s.1.set s.2.2.toNat ({ c4 with At := s.2.1 })).set s.2.2.toNat ({ c6 with Kind := w64 (s.2.1 + (1:Int)) })).set s.2.2.toNat ({ c8 with Of := w64 ((w64 (s.2.1 + (1:Int))) + (1:Int)) })) s.2.2).bind fun c10 => some (.inl ((((s.1.set s.2.2.toNat ({ c4 with At := s.2.1 })).set s.2.2.toNat ({ c6 with Kind := w64 (s.2.1 + (1:Int)) })).set s.2.2.toNat ({ c8 with Of := w64 ((w64 (s.2.1 + (1:Int))) + (1:Int)) })).set s.2.2.toNat ({ c10 with Lie := w64 ((w64 ((w64 (s.2.1 + (1:Int))) + (1:Int))) + (1:Int)) }), w64 ((w64 ((w64 ((w64 (s.2.1 + (1:Int))) + (1:Int))) + (1:Int))) + (1:Int)), w64 (s.2.2 + (1:Int)))))))) else ((some (s.1, s.2.1)).map Sum.inr))
def f181 (aA0 : List Flank) (aK1 : Int) : Option (List Flank × Int) :=
  (loopO (f181_L1) (aA0, aK1, (0:Int)))
theorem f181_run {aA0 : List Flank} {aK1 : Int} {r : (List Flank × Int)} {v0 : V} {F0 : List Nat} {H : Heap} {lk : Lk} (hk : f181 aA0 aK1 = some r) (ha : TrIn H aA0 [v0] F0) (hF : ∀ b ∈ F0, b < H.length) (hS : ∀ b ∈ F0, unlocked lk b = true) (hlk : 0 < lk.length := by simp) : ∃ v H1, runL Try.prog hh 181 [v0, .int .i64 aK1] H lk = some (v, H1) ∧ v = .int .i64 r.2 ∧ TrIn H1 r.1 [v0] F0 ∧ H1.length = H.length ∧ ∀ b, b ∉ F0 → H1[b]? = H[b]? := by
  refine run_startR Try.func181 rfl Try.ntmps181 Try.results181 rfl rfl ?_
  have hO := tree_start ha hF
  have hFr := Sees.refl H F0
  unfold f181 at hk
  refine wpL_sq ?_
  refine wpL_rg ?_
  refine pA (.int _ _) ?_
  refine pE ?_
  refine gn ?_
  refine wpL_sq ?_
  refine wpL_sq ?_
  refine wpL_rg ?_
  refine pA (.int _ _) ?_
  refine pE ?_
  refine gn ?_
  refine wpL_bl ?_
  refine wpL_loopO (F := f181_L1) (fun s S' => ∃ (J : Nat → V) (G : Heap) (H1 : Heap), Sees H H1 F0 ∧ Owns H1 G [Tree F0 F0 s.1 [v0]] ∧ S' = ⟨hav [(0, v0), (1, .int .i64 s.2.1), (5, .int .i64 s.2.2)] J, G⟩) hk ⟨_, _, _, hFr, hO, St.hav _ ⟨rfl, rfl, rfl, trivial⟩⟩ ?_
  rintro ⟨x1, x2, x3⟩ _ y1 ⟨J, G, H1, hFr, hO, rfl⟩ hk hx1
  refine wpL_sq ?_
  refine wpL_sq ?_
  refine wpL_rg ?_
  refine pM (.int _ _) ?_
  refine pM v0 ?_
  refine pLenT hO 0 tS66 ?_
  refine pBi ?_
  refine pE ?_
  refine gn ?_
  refine wpL_cd (b := decide (x3 < (x1.length : Int))) (fun hb => ?_) (fun hb => ?_)
  · replace hk := ct hb hk
    refine wpL_sk ?_
    refine gn ?_
    refine wpL_sq ?_
    refine wpL_bl ?_
    refine wpL_sq ?_
    refine wpL_rg ?_
    refine pM v0 ?_
    refine pM (.int _ _) ?_
    refine pM (.int _ _) ?_
    obtain ⟨c4, hc4, hk⟩ := bs hk
    refine pXT hO 0 hc4 tE66 tZ287 (fun b5 hb5 => ?_)
    refine pF tF287_0 ?_
    refine pST foc_Flank_At (y' := x2) hO 0 hb5 hc4 tZ3 (fun _ => ⟨rfl, rfl⟩) hFr hS rfl (fun H1 G hFr hO => ?_)
    refine pE ?_
    refine gn ?_
    refine wpL_sq ?_
    refine wpL_rg ?_
    refine pM (.int _ _) ?_
    refine pBi ?_
    refine pA (.int _ _) ?_
    refine pE ?_
    refine gn ?_
    refine wpL_sq ?_
    refine wpL_rg ?_
    refine pM v0 ?_
    refine pM (.int _ _) ?_
    refine pM (.int _ _) ?_
    obtain ⟨c6, hc6, hk⟩ := bs hk
    refine pXT hO 0 hc6 tE66 tZ287 (fun b7 hb7 => ?_)
    refine pF tF287_1 ?_
    refine pST foc_Flank_Kind (y' := (w64 (x2 + (1:Int)))) hO 0 hb7 hc6 tZ3 (fun _ => ⟨rfl, rfl⟩) hFr hS rfl (fun H1 G hFr hO => ?_)
    refine pE ?_
    refine gn ?_
    refine wpL_sq ?_
    refine wpL_rg ?_
    refine pM (.int _ _) ?_
    refine pBi ?_
    refine pA (.int _ _) ?_
    refine pE ?_
    refine gn ?_
    refine wpL_sq ?_
    refine wpL_rg ?_
    refine pM v0 ?_
    refine pM (.int _ _) ?_
    refine pM (.int _ _) ?_
    obtain ⟨c8, hc8, hk⟩ := bs hk
    refine pXT hO 0 hc8 tE66 tZ287 (fun b9 hb9 => ?_)
    refine pF tF287_2 ?_
    refine pST foc_Flank_Of (y' := (w64 ((w64 (x2 + (1:Int))) + (1:Int)))) hO 0 hb9 hc8 tZ3 (fun _ => ⟨rfl, rfl⟩) hFr hS rfl (fun H1 G hFr hO => ?_)
    refine pE ?_
    refine gn ?_
    refine wpL_sq ?_
    refine wpL_rg ?_
    refine pM (.int _ _) ?_
    refine pBi ?_
    refine pA (.int _ _) ?_
    refine pE ?_
    refine gn ?_
    refine wpL_sq ?_
    refine wpL_rg ?_
    refine pM v0 ?_
    refine pM (.int _ _) ?_
    refine pM (.int _ _) ?_
    obtain ⟨c10, hc10, hk⟩ := bs hk
    refine pXT hO 0 hc10 tE66 tZ287 (fun b11 hb11 => ?_)
    refine pF tF287_3 ?_
    refine pST foc_Flank_Lie (y' := (w64 ((w64 ((w64 (x2 + (1:Int))) + (1:Int))) + (1:Int)))) hO 0 hb11 hc10 tZ3 (fun _ => ⟨rfl, rfl⟩) hFr hS rfl (fun H1 G hFr hO => ?_)
    refine pE ?_
    refine gn ?_
    refine wpL_rg ?_
    refine pM (.int _ _) ?_
    refine pBi ?_
    refine pA (.int _ _) ?_
    refine pE ?_
    refine bn (gn ?_)
    refine wpL_rg ?_
    refine pM (.int _ _) ?_
    refine pBi ?_
    refine pA (.int _ _) ?_
    refine pE ?_
    refine gn ?_
    cases hk; exact ⟨_, rfl, _, _, _, hFr, hO, St.hav _ ⟨rfl, rfl, rfl, trivial⟩⟩
  · replace hk := cf hb hk
    refine wpL_ex ?_
    refine ge (ge (be (gn ?_)))
    replace hk := lx hx1 hk
    refine wpL_sq ?_
    refine wpL_rg ?_
    refine pM (.int _ _) ?_
    refine pA (.int _ _) ?_
    refine pE ?_
    refine gn ?_
    refine wpL_rt ?_
    replace hk := Option.some.inj hk; subst hk; exact finT hO 0 hFr hF
/-- laws.markRouteS -/
def f66_L1 : ((List Route) × Int × Int) → Option (((List Route) × Int × Int) ⊕ (List Route × Int)) := fun s =>
  (bif decide (s.2.2 < (s.1.length : Int)) then ((getI s.1 s.2.2).bind fun c4 => ((getI (s.1.set s.2.2.toNat ({ c4 with From := s.2.1 })) s.2.2).bind fun c6 => ((getI ((s.1.set s.2.2.toNat ({ c4 with From := s.2.1 })).set s.2.2.toNat ({ c6 with To := w64 (s.2.1 + (1:Int)) })) s.2.2).bind fun c8 => ((f179 c8.Steps (w64 ((w64 (s.2.1 + (1:Int))) + (1:Int)))).bind fun z11 => ((getI (((s.1.set s.2.2.toNat ({ c4 with From := s.2.1 })).set s.2.2.toNat ({ c6 with To := w64 (s.2.1 + (1:Int)) })).set s.2.2.toNat ({ c8 with Steps := z11.1 })) s.2.2).bind fun c12 => ((f180 c12.Lies z11.2).bind fun z15 => ((getI ((((s.1.set s.2.2.toNat ({ c4 with From := s.2.1 })).set s.2.2.toNat ({ c6 with To := w64 (s.2.1 + (1:Int)) })).set s.2.2.toNat ({ c8 with Steps := z11.1 })).set s.2.2.toNat ({ c12 with Lies := z15.1 })) s.2.2).bind fun c16 => ((f31 c16.Crosses z15.2).bind fun z19 => ((getI (((((s.1.set s.2.2.toNat ({ c4 with From := s.2.1 })).set s.2.2.toNat ({ c6 with To := w64 (s.2.1 + (1:Int)) })).set s.2.2.toNat ({ c8 with Steps := z11.1 })).set s.2.2.toNat ({ c12 with Lies := z15.1 })).set s.2.2.toNat ({ c16 with Crosses := z19.1 })) s.2.2).bind fun c20 => ((f113 c20.Parts z19.2).bind fun z23 => ((getI ((((((s.1.set s.2.2.toNat ({ c4 with From := s.2.1 })).set s.2.2.toNat ({ c6 with To := w64 (s.2.1 + (1:Int)) })).set s.2.2.toNat ({ c8 with Steps := z11.1 })).set s.2.2.toNat ({ c12 with Lies := z15.1 })).set s.2.2.toNat ({ c16 with Crosses := z19.1 })).set s.2.2.toNat ({ c20 with Parts := z23.1 })) s.2.2).bind fun c24 => ((f113 c24.Over z23.2).bind fun z27 => ((getI (((((((s.1.set s.2.2.toNat ({ c4 with From := s.2.1 })).set s.2.2.toNat ({ c6 with To := w64 (s.2.1 + (1:Int)) })).set s.2.2.toNat ({ c8 with Steps := z11.1 })).set s.2.2.toNat ({ c12 with Lies := z15.1 })).set s.2.2.toNat ({ c16 with Crosses := z19.1 })).set s.2.2.toNat ({ c20 with Parts := z23.1 })).set s.2.2.toNat ({ c24 with Over := z27.1 })) s.2.2).bind fun c28 => ((f181 c28.Flanks z27.2).bind fun z31 => some (.inl ((((((((s.1.set s.2.2.toNat ({ c4 with From := s.2.1 })).set s.2.2.toNat ({ c6 with To := w64 (s.2.1 + (1:Int)) })).set s.2.2.toNat ({ c8 with Steps := z11.1 })).set s.2.2.toNat ({ c12 with Lies := z15.1 })).set s.2.2.toNat ({ c16 with Crosses := z19.1 })).set s.2.2.toNat ({ c20 with Parts := z23.1 })).set s.2.2.toNat ({ c24 with Over := z27.1 })).set s.2.2.toNat ({ c28 with Flanks := z31.1 }), z31.2, w64 (s.2.2 + (1:Int)))))))))))))))))) else ((some (s.1, s.2.1)).map Sum.inr))
def f66 (aA0 : List Route) (aK1 : Int) : Option (List Route × Int) :=
  (loopO (f66_L1) (aA0, aK1, (0:Int)))
theorem f66_run {aA0 : List Route} {aK1 : Int} {r : (List Route × Int)} {v0 : V} {F0 : List Nat} {H : Heap} {lk : Lk} (hk : f66 aA0 aK1 = some r) (ha : TrIn H aA0 [v0] F0) (hF : ∀ b ∈ F0, b < H.length) (hS : ∀ b ∈ F0, unlocked lk b = true) (hlk : 0 < lk.length := by simp) : ∃ v H1, runL Try.prog hh 66 [v0, .int .i64 aK1] H lk = some (v, H1) ∧ v = .int .i64 r.2 ∧ TrIn H1 r.1 [v0] F0 ∧ H1.length = H.length ∧ ∀ b, b ∉ F0 → H1[b]? = H[b]? := by
  refine run_startR Try.func66 rfl Try.ntmps66 Try.results66 rfl rfl ?_
  have hO := tree_start ha hF
  have hFr := Sees.refl H F0
  unfold f66 at hk
  refine wpL_sq ?_
  refine wpL_rg ?_
  refine pA (.int _ _) ?_
  refine pE ?_
  refine gn ?_
  refine wpL_sq ?_
  refine wpL_sq ?_
  refine wpL_rg ?_
  refine pA (.int _ _) ?_
  refine pE ?_
  refine gn ?_
  refine wpL_bl ?_
  refine wpL_loopO (F := f66_L1) (fun s S' => ∃ (J : Nat → V) (G : Heap) (H1 : Heap), Sees H H1 F0 ∧ Owns H1 G [Tree F0 F0 s.1 [v0]] ∧ S' = ⟨hav [(0, v0), (1, .int .i64 s.2.1), (5, .int .i64 s.2.2)] J, G⟩) hk ⟨_, _, _, hFr, hO, St.hav _ ⟨rfl, rfl, rfl, trivial⟩⟩ ?_
  rintro ⟨x1, x2, x3⟩ _ y1 ⟨J, G, H1, hFr, hO, rfl⟩ hk hx1
  refine wpL_sq ?_
  refine wpL_sq ?_
  refine wpL_rg ?_
  refine pM (.int _ _) ?_
  refine pM v0 ?_
  refine pLenT hO 0 tS96 ?_
  refine pBi ?_
  refine pE ?_
  refine gn ?_
  refine wpL_cd (b := decide (x3 < (x1.length : Int))) (fun hb => ?_) (fun hb => ?_)
  · replace hk := ct hb hk
    refine wpL_sk ?_
    refine gn ?_
    refine wpL_sq ?_
    refine wpL_bl ?_
    refine wpL_sq ?_
    refine wpL_rg ?_
    refine pM v0 ?_
    refine pM (.int _ _) ?_
    refine pM (.int _ _) ?_
    obtain ⟨c4, hc4, hk⟩ := bs hk
    refine pXT hO 0 hc4 tE96 tZ68 (fun b5 hb5 => ?_)
    refine pF tF68_0 ?_
    refine pST foc_Route_From (y' := x2) hO 0 hb5 hc4 tZ3 (fun _ => ⟨rfl, rfl⟩) hFr hS rfl (fun H1 G hFr hO => ?_)
    refine pE ?_
    refine gn ?_
    refine wpL_sq ?_
    refine wpL_rg ?_
    refine pM (.int _ _) ?_
    refine pBi ?_
    refine pA (.int _ _) ?_
    refine pE ?_
    refine gn ?_
    refine wpL_sq ?_
    refine wpL_rg ?_
    refine pM v0 ?_
    refine pM (.int _ _) ?_
    refine pM (.int _ _) ?_
    obtain ⟨c6, hc6, hk⟩ := bs hk
    refine pXT hO 0 hc6 tE96 tZ68 (fun b7 hb7 => ?_)
    refine pF tF68_1 ?_
    refine pST foc_Route_To (y' := (w64 (x2 + (1:Int)))) hO 0 hb7 hc6 tZ3 (fun _ => ⟨rfl, rfl⟩) hFr hS rfl (fun H1 G hFr hO => ?_)
    refine pE ?_
    refine gn ?_
    refine wpL_sq ?_
    refine wpL_rg ?_
    refine pM (.int _ _) ?_
    refine pBi ?_
    refine pA (.int _ _) ?_
    refine pE ?_
    refine gn ?_
    refine wpL_sq ?_
    refine wpL_rg ?_
    refine pM v0 ?_
    refine pM (.int _ _) ?_
    obtain ⟨c8, hc8, hk⟩ := bs hk
    refine pXT hO 0 hc8 tE96 tZ68 (fun b9 hb9 => ?_)
    refine pF tF68_2 ?_
    refine pLT foc_Route_Steps hO 0 hb9 hc8 tA63 (fun u10 fs10 hs10 => ?_)
    refine pM (.int _ _) ?_
    obtain ⟨z11, hz11, hk⟩ := bs hk
    refine pCT (y' := z11.1) (r := .int .i64 z11.2) hO 0 hs10 (fun _ h => h) hFr hS (fun hF1 hS1 ht1 => f179_run hz11 ht1 hF1 hS1) (fun H1 G hFr hO => ?_)
    refine pA (.int _ _) ?_
    refine pE ?_
    refine gn ?_
    refine wpL_sq ?_
    refine wpL_rg ?_
    refine pM v0 ?_
    refine pM (.int _ _) ?_
    obtain ⟨c12, hc12, hk⟩ := bs hk
    refine pXT hO 0 hc12 tE96 tZ68 (fun b13 hb13 => ?_)
    refine pF tF68_3 ?_
    refine pLT foc_Route_Lies hO 0 hb13 hc12 tA64 (fun u14 fs14 hs14 => ?_)
    refine pM (.int _ _) ?_
    obtain ⟨z15, hz15, hk⟩ := bs hk
    refine pCT (y' := z15.1) (r := .int .i64 z15.2) hO 0 hs14 (fun _ h => h) hFr hS (fun hF1 hS1 ht1 => f180_run hz15 ht1 hF1 hS1) (fun H1 G hFr hO => ?_)
    refine pA (.int _ _) ?_
    refine pE ?_
    refine gn ?_
    refine wpL_sq ?_
    refine wpL_rg ?_
    refine pM v0 ?_
    refine pM (.int _ _) ?_
    obtain ⟨c16, hc16, hk⟩ := bs hk
    refine pXT hO 0 hc16 tE96 tZ68 (fun b17 hb17 => ?_)
    refine pF tF68_4 ?_
    refine pLT foc_Route_Crosses hO 0 hb17 hc16 tA26 (fun u18 fs18 hs18 => ?_)
    refine pM (.int _ _) ?_
    obtain ⟨z19, hz19, hk⟩ := bs hk
    refine pCT (y' := z19.1) (r := .int .i64 z19.2) hO 0 hs18 (fun _ h => h) hFr hS (fun hF1 hS1 ht1 => f31_run hz19 ht1 hF1 hS1) (fun H1 G hFr hO => ?_)
    refine pA (.int _ _) ?_
    refine pE ?_
    refine gn ?_
    refine wpL_sq ?_
    refine wpL_rg ?_
    refine pM v0 ?_
    refine pM (.int _ _) ?_
    obtain ⟨c20, hc20, hk⟩ := bs hk
    refine pXT hO 0 hc20 tE96 tZ68 (fun b21 hb21 => ?_)
    refine pF tF68_5 ?_
    refine pLT foc_Route_Parts hO 0 hb21 hc20 tA65 (fun u22 fs22 hs22 => ?_)
    refine pM (.int _ _) ?_
    obtain ⟨z23, hz23, hk⟩ := bs hk
    refine pCT (y' := z23.1) (r := .int .i64 z23.2) hO 0 hs22 (fun _ h => h) hFr hS (fun hF1 hS1 ht1 => f113_run hz23 ht1 hF1 hS1) (fun H1 G hFr hO => ?_)
    refine pA (.int _ _) ?_
    refine pE ?_
    refine gn ?_
    refine wpL_sq ?_
    refine wpL_rg ?_
    refine pM v0 ?_
    refine pM (.int _ _) ?_
    obtain ⟨c24, hc24, hk⟩ := bs hk
    refine pXT hO 0 hc24 tE96 tZ68 (fun b25 hb25 => ?_)
    refine pF tF68_6 ?_
    refine pLT foc_Route_Over hO 0 hb25 hc24 tA65 (fun u26 fs26 hs26 => ?_)
    refine pM (.int _ _) ?_
    obtain ⟨z27, hz27, hk⟩ := bs hk
    refine pCT (y' := z27.1) (r := .int .i64 z27.2) hO 0 hs26 (fun _ h => h) hFr hS (fun hF1 hS1 ht1 => f113_run hz27 ht1 hF1 hS1) (fun H1 G hFr hO => ?_)
    refine pA (.int _ _) ?_
    refine pE ?_
    refine gn ?_
    refine wpL_rg ?_
    refine pM v0 ?_
    refine pM (.int _ _) ?_
    obtain ⟨c28, hc28, hk⟩ := bs hk
    refine pXT hO 0 hc28 tE96 tZ68 (fun b29 hb29 => ?_)
    refine pF tF68_7 ?_
    refine pLT foc_Route_Flanks hO 0 hb29 hc28 tA66 (fun u30 fs30 hs30 => ?_)
    refine pM (.int _ _) ?_
    obtain ⟨z31, hz31, hk⟩ := bs hk
    refine pCT (y' := z31.1) (r := .int .i64 z31.2) hO 0 hs30 (fun _ h => h) hFr hS (fun hF1 hS1 ht1 => f181_run hz31 ht1 hF1 hS1) (fun H1 G hFr hO => ?_)
    refine pA (.int _ _) ?_
    refine pE ?_
    refine bn (gn ?_)
    refine wpL_rg ?_
    refine pM (.int _ _) ?_
    refine pBi ?_
    refine pA (.int _ _) ?_
    refine pE ?_
    refine gn ?_
    cases hk; exact ⟨_, rfl, _, _, _, hFr, hO, St.hav _ ⟨rfl, rfl, rfl, trivial⟩⟩
  · replace hk := cf hb hk
    refine wpL_ex ?_
    refine ge (ge (be (gn ?_)))
    replace hk := lx hx1 hk
    refine wpL_sq ?_
    refine wpL_rg ?_
    refine pM (.int _ _) ?_
    refine pA (.int _ _) ?_
    refine pE ?_
    refine gn ?_
    refine wpL_rt ?_
    replace hk := Option.some.inj hk; subst hk; exact finT hO 0 hFr hF
/-- laws.markIntSS -/
def f67_L1 : ((List (List Int)) × Int × Int) → Option (((List (List Int)) × Int × Int) ⊕ (List (List Int) × Int)) := fun s =>
  (bif decide (s.2.2 < (s.1.length : Int)) then ((getI s.1 s.2.2).bind fun c4 => ((f31 c4 s.2.1).bind fun z7 => some (.inl (s.1.set s.2.2.toNat z7.1, z7.2, w64 (s.2.2 + (1:Int)))))) else ((some (s.1, s.2.1)).map Sum.inr))
def f67 (aA0 : List (List Int)) (aK1 : Int) : Option (List (List Int) × Int) :=
  (loopO (f67_L1) (aA0, aK1, (0:Int)))
theorem f67_run {aA0 : List (List Int)} {aK1 : Int} {r : (List (List Int) × Int)} {v0 : V} {F0 : List Nat} {H : Heap} {lk : Lk} (hk : f67 aA0 aK1 = some r) (ha : TrIn H aA0 [v0] F0) (hF : ∀ b ∈ F0, b < H.length) (hS : ∀ b ∈ F0, unlocked lk b = true) (hlk : 0 < lk.length := by simp) : ∃ v H1, runL Try.prog hh 67 [v0, .int .i64 aK1] H lk = some (v, H1) ∧ v = .int .i64 r.2 ∧ TrIn H1 r.1 [v0] F0 ∧ H1.length = H.length ∧ ∀ b, b ∉ F0 → H1[b]? = H[b]? := by
  refine run_startR Try.func67 rfl Try.ntmps67 Try.results67 rfl rfl ?_
  have hO := tree_start ha hF
  have hFr := Sees.refl H F0
  unfold f67 at hk
  refine wpL_sq ?_
  refine wpL_rg ?_
  refine pA (.int _ _) ?_
  refine pE ?_
  refine gn ?_
  refine wpL_sq ?_
  refine wpL_sq ?_
  refine wpL_rg ?_
  refine pA (.int _ _) ?_
  refine pE ?_
  refine gn ?_
  refine wpL_bl ?_
  refine wpL_loopO (F := f67_L1) (fun s S' => ∃ (J : Nat → V) (G : Heap) (H1 : Heap), Sees H H1 F0 ∧ Owns H1 G [Tree F0 F0 s.1 [v0]] ∧ S' = ⟨hav [(0, v0), (1, .int .i64 s.2.1), (5, .int .i64 s.2.2)] J, G⟩) hk ⟨_, _, _, hFr, hO, St.hav _ ⟨rfl, rfl, rfl, trivial⟩⟩ ?_
  rintro ⟨x1, x2, x3⟩ _ y1 ⟨J, G, H1, hFr, hO, rfl⟩ hk hx1
  refine wpL_sq ?_
  refine wpL_sq ?_
  refine wpL_rg ?_
  refine pM (.int _ _) ?_
  refine pM v0 ?_
  refine pLenT hO 0 tS94 ?_
  refine pBi ?_
  refine pE ?_
  refine gn ?_
  refine wpL_cd (b := decide (x3 < (x1.length : Int))) (fun hb => ?_) (fun hb => ?_)
  · replace hk := ct hb hk
    refine wpL_sk ?_
    refine gn ?_
    refine wpL_sq ?_
    refine wpL_bl ?_
    refine wpL_rg ?_
    refine pM v0 ?_
    refine pM (.int _ _) ?_
    obtain ⟨c4, hc4, hk⟩ := bs hk
    refine pXT hO 0 hc4 tE94 tZ26 (fun b5 hb5 => ?_)
    refine pLT (Foc.all (α := List Int)) hO 0 hb5 hc4 tA26 (fun u6 fs6 hs6 => ?_)
    refine pM (.int _ _) ?_
    obtain ⟨z7, hz7, hk⟩ := bs hk
    refine pCT (y' := z7.1) (r := .int .i64 z7.2) hO 0 hs6 (fun _ h => h) hFr hS (fun hF1 hS1 ht1 => f31_run hz7 ht1 hF1 hS1) (fun H1 G hFr hO => ?_)
    refine pA (.int _ _) ?_
    refine pE ?_
    refine bn (gn ?_)
    refine wpL_rg ?_
    refine pM (.int _ _) ?_
    refine pBi ?_
    refine pA (.int _ _) ?_
    refine pE ?_
    refine gn ?_
    cases hk; exact ⟨_, rfl, _, _, _, hFr, hO, St.hav _ ⟨rfl, rfl, rfl, trivial⟩⟩
  · replace hk := cf hb hk
    refine wpL_ex ?_
    refine ge (ge (be (gn ?_)))
    replace hk := lx hx1 hk
    refine wpL_sq ?_
    refine wpL_rg ?_
    refine pM (.int _ _) ?_
    refine pA (.int _ _) ?_
    refine pE ?_
    refine gn ?_
    refine wpL_rt ?_
    replace hk := Option.some.inj hk; subst hk; exact finT hO 0 hFr hF
/-- laws.heldIntS -/
def f32_L1 (aA0 : List Int) : (Int × Int) → Option ((Int × Int) ⊕ Int) := fun s =>
  (bif decide (s.2 < (aA0.length : Int)) then ((getI aA0 s.2).bind fun c3 => (bif (c3 != s.1) then ((some (-1:Int)).map Sum.inr) else some (.inl (w64 (s.1 + (1:Int)), w64 (s.2 + (1:Int)))))) else ((some s.1).map Sum.inr))
def f32 (aA0 : List Int) (aK1 : Int) : Option Int :=
  (loopO (f32_L1 aA0) (aK1, (0:Int)))
theorem f32_run {aA0 : List Int} {aK1 : Int} {r : Int} {l1 : Nat} {H : Heap} {lk : Lk} (hk : f32 aA0 aK1 = some r) (hlk : 0 < lk.length := by simp) : runL Try.prog hh 32 [.lit l1 aA0.length ((flatL 0) aA0), .int .i64 aK1] H lk = some (.int .i64 r, H) := by
  refine run_start Try.func32 rfl Try.ntmps32 Try.results32 rfl rfl fun hO => ?_
  unfold f32 at hk
  refine wpL_sq ?_
  refine wpL_rg ?_
  refine pA (.int _ _) ?_
  refine pE ?_
  refine gn ?_
  refine wpL_sq ?_
  refine wpL_sq ?_
  refine wpL_rg ?_
  refine pA (.int _ _) ?_
  refine pE ?_
  refine gn ?_
  refine wpL_bl ?_
  refine wpL_loopO (F := f32_L1 aA0) (fun s S' => ∃ (J : Nat → V) (G : Heap), Owns H G [] ∧ S' = ⟨hav [(0, .lit l1 aA0.length ((flatL 0) aA0)), (1, .int .i64 s.1), (5, .int .i64 s.2)] J, G⟩) hk ⟨_, _, hO, St.hav _ ⟨rfl, rfl, rfl, trivial⟩⟩ ?_
  rintro ⟨x1, x2⟩ _ y1 ⟨J, G, hO, rfl⟩ hk hx1
  refine wpL_sq ?_
  refine wpL_sq ?_
  refine wpL_rg ?_
  refine pM (.int _ _) ?_
  refine pM (.lit _ _ _) ?_
  refine pLen tS26 ?_
  refine pBi ?_
  refine pE ?_
  refine gn ?_
  refine wpL_cd (b := decide (x2 < (aA0.length : Int))) (fun hb => ?_) (fun hb => ?_)
  · replace hk := ct hb hk
    refine wpL_sk ?_
    refine gn ?_
    refine wpL_sq ?_
    refine wpL_bl ?_
    refine wpL_sq ?_
    refine wpL_sq ?_
    refine wpL_rg ?_
    refine pM (.lit _ _ _) ?_
    refine pM (.int _ _) ?_
    obtain ⟨c3, hc3, hk⟩ := bs hk
    refine pX hc3 tE26 tZ3 ?_
    refine pLp (.int _ _) (rd1 (lm := 0) (off := 0) hc3 tA3) ?_
    refine pM (.int _ _) ?_
    refine pBi ?_
    refine pE ?_
    refine gn ?_
    refine wpL_cd (b := (c3 != x1)) (fun hb => ?_) (fun hb => ?_)
    · replace hk := ct hb hk
      refine wpL_sq ?_
      refine wpL_rg ?_
      refine pA (.int _ _) ?_
      refine pE ?_
      refine gn ?_
      refine wpL_rt ?_
      refine gr (br (gr (gr (br (gr ?_)))))
      replace hk := lx hx1 hk
      replace hk := Option.some.inj hk; subst hk; exact fin0 hO
    · replace hk := cf hb hk
      refine wpL_sk ?_
      refine gn ?_
      refine wpL_rg ?_
      refine pM (.int _ _) ?_
      refine pBi ?_
      refine pA (.int _ _) ?_
      refine pE ?_
      refine bn (gn ?_)
      refine wpL_rg ?_
      refine pM (.int _ _) ?_
      refine pBi ?_
      refine pA (.int _ _) ?_
      refine pE ?_
      refine gn ?_
      cases hk; exact ⟨_, rfl, _, _, hO, St.hav _ ⟨rfl, rfl, rfl, trivial⟩⟩
  · replace hk := cf hb hk
    refine wpL_ex ?_
    refine ge (ge (be (gn ?_)))
    replace hk := lx hx1 hk
    refine wpL_sq ?_
    refine wpL_rg ?_
    refine pM (.int _ _) ?_
    refine pA (.int _ _) ?_
    refine pE ?_
    refine gn ?_
    refine wpL_rt ?_
    replace hk := Option.some.inj hk; subst hk; exact fin0 hO
/-- laws.heldIntSS -/
def f68_L1 (aA0 : List (List Int)) : (Int × Int) → Option ((Int × Int) ⊕ Int) := fun s =>
  (bif decide (s.2 < (aA0.length : Int)) then ((getI aA0 s.2).bind fun c3 => ((f32 c3 s.1).bind fun v4 => (bif decide (v4 < (0:Int)) then ((some (-1:Int)).map Sum.inr) else some (.inl (v4, w64 (s.2 + (1:Int))))))) else ((some s.1).map Sum.inr))
def f68 (aA0 : List (List Int)) (aK1 : Int) : Option Int :=
  (loopO (f68_L1 aA0) (aK1, (0:Int)))
theorem f68_run {aA0 : List (List Int)} {aK1 : Int} {r : Int} {l1 m2 : Nat} {H : Heap} {lk : Lk} (hk : f68 aA0 aK1 = some r) (hlk : 0 < lk.length := by simp) : runL Try.prog hh 68 [.lit l1 aA0.length (flatL m2 aA0), .int .i64 aK1] H lk = some (.int .i64 r, H) := by
  refine run_start Try.func68 rfl Try.ntmps68 Try.results68 rfl rfl fun hO => ?_
  unfold f68 at hk
  refine wpL_sq ?_
  refine wpL_rg ?_
  refine pA (.int _ _) ?_
  refine pE ?_
  refine gn ?_
  refine wpL_sq ?_
  refine wpL_sq ?_
  refine wpL_rg ?_
  refine pA (.int _ _) ?_
  refine pE ?_
  refine gn ?_
  refine wpL_bl ?_
  refine wpL_loopO (F := f68_L1 aA0) (fun s S' => ∃ (J : Nat → V) (G : Heap), Owns H G [] ∧ S' = ⟨hav [(0, .lit l1 aA0.length (flatL m2 aA0)), (1, .int .i64 s.1), (5, .int .i64 s.2)] J, G⟩) hk ⟨_, _, hO, St.hav _ ⟨rfl, rfl, rfl, trivial⟩⟩ ?_
  rintro ⟨x1, x2⟩ _ y1 ⟨J, G, hO, rfl⟩ hk hx1
  refine wpL_sq ?_
  refine wpL_sq ?_
  refine wpL_rg ?_
  refine pM (.int _ _) ?_
  refine pM (.lit _ _ _) ?_
  refine pLen tS94 ?_
  refine pBi ?_
  refine pE ?_
  refine gn ?_
  refine wpL_cd (b := decide (x2 < (aA0.length : Int))) (fun hb => ?_) (fun hb => ?_)
  · replace hk := ct hb hk
    refine wpL_sk ?_
    refine gn ?_
    refine wpL_sq ?_
    refine wpL_bl ?_
    refine wpL_sq ?_
    refine wpL_rg ?_
    refine pM (.lit _ _ _) ?_
    refine pM (.int _ _) ?_
    obtain ⟨c3, hc3, hk⟩ := bs hk
    refine pX hc3 tE94 tZ26 ?_
    refine pLp (.lit _ _ _) (rd1 (lm := m2) (off := 0) hc3 tA26) ?_
    refine pM (.int _ _) ?_
    obtain ⟨v4, hv4, hk⟩ := bs hk
    refine pCall (fun _ => f32_run hv4) ?_
    refine pA (.int _ _) ?_
    refine pE ?_
    refine gn ?_
    refine wpL_sq ?_
    refine wpL_rg ?_
    refine pM (.int _ _) ?_
    refine pBi ?_
    refine pE ?_
    refine gn ?_
    refine wpL_cd (b := decide (v4 < (0:Int))) (fun hb => ?_) (fun hb => ?_)
    · replace hk := ct hb hk
      refine wpL_sq ?_
      refine wpL_rg ?_
      refine pA (.int _ _) ?_
      refine pE ?_
      refine gn ?_
      refine wpL_rt ?_
      refine br (gr (gr (br (gr ?_))))
      replace hk := lx hx1 hk
      replace hk := Option.some.inj hk; subst hk; exact fin0 hO
    · replace hk := cf hb hk
      refine wpL_sk ?_
      refine bn (gn ?_)
      refine wpL_rg ?_
      refine pM (.int _ _) ?_
      refine pBi ?_
      refine pA (.int _ _) ?_
      refine pE ?_
      refine gn ?_
      cases hk; exact ⟨_, rfl, _, _, hO, St.hav _ ⟨rfl, rfl, rfl, trivial⟩⟩
  · replace hk := cf hb hk
    refine wpL_ex ?_
    refine ge (ge (be (gn ?_)))
    replace hk := lx hx1 hk
    refine wpL_sq ?_
    refine wpL_rg ?_
    refine pM (.int _ _) ?_
    refine pA (.int _ _) ?_
    refine pE ?_
    refine gn ?_
    refine wpL_rt ?_
    replace hk := Option.some.inj hk; subst hk; exact fin0 hO
end
end Go.Proofs.Ytkfekjcahepfnaa.K
