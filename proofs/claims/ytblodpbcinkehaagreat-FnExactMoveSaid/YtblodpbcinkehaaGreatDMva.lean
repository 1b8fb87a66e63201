/-
 The functions that FnExactMove reaches, as typed Lean functions, and that the interpreter computes them. Part 1 of 3. No conditions.
-/
import Derived.Test.YtblodpbcinkehaaGreatK2
import Derived.Test.YtblodpbcinkehaaGreatProg
set_option linter.unusedVariables false
set_option linter.unusedSimpArgs false
set_option maxRecDepth 100000
set_option autoImplicit true
set_option relaxedAutoImplicit true
namespace Go.Proofs.YtblodpbcinkehaaGreat.K
open Nat renaming beq → ed, ble → fj
open List renaming length_append → aq, all_append → dk, replicate → ch, length_replicate → gj
open _root_.Go.Proofs.Tryz renaming prog → ah
open Option.some renaming inj → an
noncomputable section
variable {H : A4} {lk : Lk}
def hh : BI := { Es := fun k => bif ed k 15 || ed k 16 || ed k 17 || ed k 18 || ed k 38 || ed k 39 || ed k 40 || ed k 41 || ed k 82 then [.exact] else (bif ed k 73 then [.M8, .part] else []), Qj := fun k => ed k 6 || ed k 7 || ed k 8 || ed k 9 || ed k 10 || ed k 24 || ed k 25 || ed k 26 || ed k 28 || ed k 32 || ed k 49 || ed k 59 || ed k 73 || ed k 91, grow := fun k => ed k 70, IA := fun k => ed k 26, lits := fun k => ed k 32 }
structure A0 where
 Name : ByteArray
 BN : Int
 Bv : Int
 CX : Int
instance : AG A0 := ⟨4, by decide, fun l x => AG.BO l x.Name ++ (AG.BO l x.BN ++ (AG.BO l x.Bv ++ (AG.BO l x.CX))), fun x => by simp only [aq, AG.len]; rfl, fun x h => by simp only [BS, AG.Ec _ h]; rfl, fun x => by simp only [dk, AG.cell]; rfl⟩
instance : Ar A0 := Ar.via (fun x => (x.Name, x.BN, x.Bv, x.CX) : A0 → ByteArray × Int × Int × Int) rfl fun _ _ => rfl
instance : FT A0 := ⟨fun h => FT.inv (α := ByteArray × Int × Int × Int) h⟩
instance : Cj A0 := ⟨fun G x => Cj.fl (α := ByteArray × Int × Int × Int) G (x.Name, x.BN, x.Bv, x.CX), fun l x => Cj.Xd (α := ByteArray × Int × Int × Int) l (x.Name, x.BN, x.Bv, x.CX), Cj.pos (α := ByteArray × Int × Int × Int)⟩
theorem NT : CJ A0 ByteArray (fun x => x.Name) (fun x y => { x with Name := y }) 0 := CJ.via (α := A0) (f := (fun x => (x.Name, x.BN, x.Bv, x.CX) : A0 → ByteArray × Int × Int × Int)) (hz := rfl) (he := fun _ _ => rfl) (CJ.fst) fun _ _ => rfl
theorem OU : CJ A0 Int (fun x => x.BN) (fun x y => { x with BN := y }) 1 := CJ.via (α := A0) (f := (fun x => (x.Name, x.BN, x.Bv, x.CX) : A0 → ByteArray × Int × Int × Int)) (hz := rfl) (he := fun _ _ => rfl) (CJ.comp CJ.snd (CJ.fst)) fun _ _ => rfl
theorem M6 : CJ A0 Int (fun x => x.Bv) (fun x y => { x with Bv := y }) 2 := CJ.via (α := A0) (f := (fun x => (x.Name, x.BN, x.Bv, x.CX) : A0 → ByteArray × Int × Int × Int)) (hz := rfl) (he := fun _ _ => rfl) (CJ.comp CJ.snd (CJ.comp CJ.snd (CJ.fst))) fun _ _ => rfl
theorem M5 : CJ A0 Int (fun x => x.CX) (fun x y => { x with CX := y }) 3 := CJ.via (α := A0) (f := (fun x => (x.Name, x.BN, x.Bv, x.CX) : A0 → ByteArray × Int × Int × Int)) (hz := rfl) (he := fun _ _ => rfl) (CJ.comp CJ.snd (CJ.comp CJ.snd (CJ.snd))) fun _ _ => rfl
structure Ay where
 A0 : Int
 B9 : Int
 deriving DecidableEq
instance : AG Ay := ⟨2, by decide, fun l x => AG.BO l x.A0 ++ (AG.BO l x.B9), fun x => by simp only [aq, AG.len]; rfl, fun x h => by simp only [BS, AG.Ec _ h]; rfl, fun x => by simp only [dk, AG.cell]; rfl⟩
instance : Ar Ay := Ar.via (fun x => (x.A0, x.B9) : Ay → Int × Int) rfl fun _ _ => rfl
instance : FT Ay := ⟨fun h => FT.inv (α := Int × Int) h⟩
instance : Cj Ay := ⟨fun G x => Cj.fl (α := Int × Int) G (x.A0, x.B9), fun l x => Cj.Xd (α := Int × Int) l (x.A0, x.B9), Cj.pos (α := Int × Int)⟩
theorem OS : CJ Ay Int (fun x => x.A0) (fun x y => { x with A0 := y }) 0 := CJ.via (α := Ay) (f := (fun x => (x.A0, x.B9) : Ay → Int × Int)) (hz := rfl) (he := fun _ _ => rfl) (CJ.fst) fun _ _ => rfl
theorem QA : CJ Ay Int (fun x => x.B9) (fun x y => { x with B9 := y }) 1 := CJ.via (α := Ay) (f := (fun x => (x.A0, x.B9) : Ay → Int × Int)) (hz := rfl) (he := fun _ _ => rfl) (CJ.snd) fun _ _ => rfl
instance : GI Ay := ⟨fun x => .agg ((AG.BO 0) x), fun _ => rfl⟩
theorem MJ : Jg (.many [.i, .i]) Ay := fun a b => by
 have h : Dc (.many [.i, .i]) (GI.pv a) (GI.pv b) = some ((a.A0 == b.A0) && ((a.B9 == b.B9) && (true))) := by
  show (if ((AG.BO 0) a).length = 2 ∧ ((AG.BO 0) b).length = 2 then CV _ ((AG.BO 0) a) ((AG.BO 0) b) else none) = _
  rw [if_pos ⟨AG.len a, AG.len b⟩]
  exact Qn (Qo _ _ _) (Qn (Qo _ _ _) (rfl))
 rw [h]
 congr 1
 cases a; cases b
 rw [Bool.eq_iff_iff]
 simp
structure AO where
 Kind : Int
 Name : ByteArray
 Ends : List Ay
instance : AG AO := ⟨3, by decide, fun l x => AG.BO l x.Kind ++ (AG.BO l x.Name ++ (AG.BO l x.Ends)), fun x => by simp only [aq, AG.len]; rfl, fun x h => by simp only [BS, AG.Ec _ h]; rfl, fun x => by simp only [dk, AG.cell]; rfl⟩
instance : Ar AO := Ar.via (fun x => (x.Kind, x.Name, x.Ends) : AO → Int × ByteArray × (List Ay)) rfl fun _ _ => rfl
theorem NO : CJ AO Int (fun x => x.Kind) (fun x y => { x with Kind := y }) 0 := CJ.via (α := AO) (f := (fun x => (x.Kind, x.Name, x.Ends) : AO → Int × ByteArray × (List Ay))) (hz := rfl) (he := fun _ _ => rfl) (CJ.fst) fun _ _ => rfl
theorem NP : CJ AO ByteArray (fun x => x.Name) (fun x y => { x with Name := y }) 1 := CJ.via (α := AO) (f := (fun x => (x.Kind, x.Name, x.Ends) : AO → Int × ByteArray × (List Ay))) (hz := rfl) (he := fun _ _ => rfl) (CJ.comp CJ.snd (CJ.fst)) fun _ _ => rfl
theorem NN : CJ AO (List Ay) (fun x => x.Ends) (fun x y => { x with Ends := y }) 2 := CJ.via (α := AO) (f := (fun x => (x.Kind, x.Name, x.Ends) : AO → Int × ByteArray × (List Ay))) (hz := rfl) (he := fun _ _ => rfl) (CJ.comp CJ.snd (CJ.snd)) fun _ _ => rfl
theorem XJ {H : A4} {d n : Nat} {rs rs1 : List Bf} {cs : List V} {x : AO} (h : MW n H d rs cs (x.Kind, x.Name, x.Ends) rs1) : MW n H d rs cs x rs1 := h
theorem gH {H G : A4} {rs : List Bf} {S F : List Nat} {x : AO} {cs : List V} {j : Nat} (hO : A8 H G rs) (hj : rs[j]? = some (Ck S F x cs)) (lv n : Nat) (hn : fj (Ar.dep AO) n = true := by rfl) : ∃ M, AY lv G (n + 1) (.agg cs) = some (.agg [.int .i64 x.Kind, .str x.Name, A7 lv 0 x.Ends], M) := by
 have h := QM hO hj lv n hn
 have e : AG.BO lv x = [.int .i64 x.Kind, .str x.Name, A7 lv 0 x.Ends] := by
  show ([.int .i64 x.Kind, .str x.Name, A7 lv lv x.Ends] : List V) = _
  simp only [A7, JG]
 rwa [e] at h
structure Az where
 A3 : List A0
 A1 : List AO
instance : AG Az := ⟨2, by decide, fun l x => AG.BO l x.A3 ++ (AG.BO l x.A1), fun x => by simp only [aq, AG.len]; rfl, fun x h => by simp only [BS, AG.Ec _ h]; rfl, fun x => by simp only [dk, AG.cell]; rfl⟩
instance : Ar Az := Ar.via (fun x => (x.A3, x.A1) : Az → (List A0) × (List AO)) rfl fun _ _ => rfl
theorem NR : CJ Az (List A0) (fun x => x.A3) (fun x y => { x with A3 := y }) 0 := CJ.via (α := Az) (f := (fun x => (x.A3, x.A1) : Az → (List A0) × (List AO))) (hz := rfl) (he := fun _ _ => rfl) (CJ.fst) fun _ _ => rfl
theorem NQ : CJ Az (List AO) (fun x => x.A1) (fun x y => { x with A1 := y }) 1 := CJ.via (α := Az) (f := (fun x => (x.A3, x.A1) : Az → (List A0) × (List AO))) (hz := rfl) (he := fun _ _ => rfl) (CJ.snd) fun _ _ => rfl
theorem cK {H : A4} {d n : Nat} {rs rs1 : List Bf} {cs : List V} {x : Az} (h : MW n H d rs cs (x.A3, x.A1) rs1) : MW n H d rs cs x rs1 := h
theorem Nu {H G : A4} {rs : List Bf} {S F : List Nat} {x : Az} {cs : List V} {j : Nat} (hO : A8 H G rs) (hj : rs[j]? = some (Ck S F x cs)) (lv n : Nat) (hn : fj (Ar.dep Az) n = true := by rfl) : ∃ M, AY lv G (n + 1) (.agg cs) = some (.agg [A7 lv 0 x.A3, A7 lv lv x.A1], M) := by
 have h := QM hO hj lv n hn
 have e : AG.BO lv x = [A7 lv 0 x.A3, A7 lv lv x.A1] := by
  show ([A7 lv lv x.A3, A7 lv lv x.A1] : List V) = _
  simp only [A7, JG]
 rwa [e] at h
structure CG where
 A0 : Int
 At : Int
 Way : Int
instance : AG CG := ⟨3, by decide, fun l x => AG.BO l x.A0 ++ (AG.BO l x.At ++ (AG.BO l x.Way)), fun x => by simp only [aq, AG.len]; rfl, fun x h => by simp only [BS, AG.Ec _ h]; rfl, fun x => by simp only [dk, AG.cell]; rfl⟩
instance : Ar CG := Ar.via (fun x => (x.A0, x.At, x.Way) : CG → Int × Int × Int) rfl fun _ _ => rfl
instance : FT CG := ⟨fun h => FT.inv (α := Int × Int × Int) h⟩
instance : Cj CG := ⟨fun G x => Cj.fl (α := Int × Int × Int) G (x.A0, x.At, x.Way), fun l x => Cj.Xd (α := Int × Int × Int) l (x.A0, x.At, x.Way), Cj.pos (α := Int × Int × Int)⟩
structure AW where
 A0 : Int
 Way : Int
instance : AG AW := ⟨2, by decide, fun l x => AG.BO l x.A0 ++ (AG.BO l x.Way), fun x => by simp only [aq, AG.len]; rfl, fun x h => by simp only [BS, AG.Ec _ h]; rfl, fun x => by simp only [dk, AG.cell]; rfl⟩
instance : Ar AW := Ar.via (fun x => (x.A0, x.Way) : AW → Int × Int) rfl fun _ _ => rfl
instance : FT AW := ⟨fun h => FT.inv (α := Int × Int) h⟩
instance : Cj AW := ⟨fun G x => Cj.fl (α := Int × Int) G (x.A0, x.Way), fun l x => Cj.Xd (α := Int × Int) l (x.A0, x.Way), Cj.pos (α := Int × Int)⟩
theorem NU : CJ AW Int (fun x => x.A0) (fun x y => { x with A0 := y }) 0 := CJ.via (α := AW) (f := (fun x => (x.A0, x.Way) : AW → Int × Int)) (hz := rfl) (he := fun _ _ => rfl) (CJ.fst) fun _ _ => rfl
theorem QB : CJ AW Int (fun x => x.Way) (fun x y => { x with Way := y }) 1 := CJ.via (α := AW) (f := (fun x => (x.A0, x.Way) : AW → Int × Int)) (hz := rfl) (he := fun _ _ => rfl) (CJ.snd) fun _ _ => rfl
structure AB where
 A5 : CG
 AI : Int
 AF : List AW
instance : AG AB := ⟨5, by decide, fun l x => AG.BO l x.A5 ++ (AG.BO l x.AI ++ (AG.BO l x.AF)), fun x => by simp only [aq, AG.len]; rfl, fun x h => by simp only [BS, AG.Ec _ h]; rfl, fun x => by simp only [dk, AG.cell]; rfl⟩
instance : Ar AB := Ar.via (fun x => (x.A5, x.AI, x.AF) : AB → CG × Int × (List AW)) rfl fun _ _ => rfl
theorem Io : CJ AB (List AW) (fun x => x.AF) (fun x y => { x with AF := y }) 4 := CJ.via (α := AB) (f := (fun x => (x.A5, x.AI, x.AF) : AB → CG × Int × (List AW))) (hz := rfl) (he := fun _ _ => rfl) (CJ.comp CJ.snd (CJ.snd)) fun _ _ => rfl
theorem ET {H : A4} {d n : Nat} {rs rs1 : List Bf} {cs : List V} {x : AB} (h : MW n H d rs cs (x.A5, x.AI, x.AF) rs1) : MW n H d rs cs x rs1 := h
theorem Is {H G : A4} {rs : List Bf} {S F : List Nat} {x : AB} {cs : List V} {j : Nat} (hO : A8 H G rs) (hj : rs[j]? = some (Ck S F x cs)) (lv n : Nat) (hn : fj (Ar.dep AB) n = true := by rfl) : ∃ M, AY lv G (n + 1) (.agg cs) = some (.agg [.int .i64 x.A5.A0, .int .i64 x.A5.At, .int .i64 x.A5.Way, .int .i64 x.AI, A7 lv 0 x.AF], M) := by
 have h := QM hO hj lv n hn
 have e : AG.BO lv x = [.int .i64 x.A5.A0, .int .i64 x.A5.At, .int .i64 x.A5.Way, .int .i64 x.AI, A7 lv 0 x.AF] := by
  show ([.int .i64 x.A5.A0, .int .i64 x.A5.At, .int .i64 x.A5.Way, .int .i64 x.AI, A7 lv lv x.AF] : List V) = _
  simp only [A7, JG]
 rwa [e] at h
structure BD where
 A0 : Int
 GV : Int
 To : Int
instance : AG BD := ⟨3, by decide, fun l x => AG.BO l x.A0 ++ (AG.BO l x.GV ++ (AG.BO l x.To)), fun x => by simp only [aq, AG.len]; rfl, fun x h => by simp only [BS, AG.Ec _ h]; rfl, fun x => by simp only [dk, AG.cell]; rfl⟩
instance : Ar BD := Ar.via (fun x => (x.A0, x.GV, x.To) : BD → Int × Int × Int) rfl fun _ _ => rfl
instance : FT BD := ⟨fun h => FT.inv (α := Int × Int × Int) h⟩
instance : Cj BD := ⟨fun G x => Cj.fl (α := Int × Int × Int) G (x.A0, x.GV, x.To), fun l x => Cj.Xd (α := Int × Int × Int) l (x.A0, x.GV, x.To), Cj.pos (α := Int × Int × Int)⟩
theorem NS : CJ BD Int (fun x => x.A0) (fun x y => { x with A0 := y }) 0 := CJ.via (α := BD) (f := (fun x => (x.A0, x.GV, x.To) : BD → Int × Int × Int)) (hz := rfl) (he := fun _ _ => rfl) (CJ.fst) fun _ _ => rfl
theorem OT : CJ BD Int (fun x => x.GV) (fun x y => { x with GV := y }) 1 := CJ.via (α := BD) (f := (fun x => (x.A0, x.GV, x.To) : BD → Int × Int × Int)) (hz := rfl) (he := fun _ _ => rfl) (CJ.comp CJ.snd (CJ.fst)) fun _ _ => rfl
theorem RD : CJ BD Int (fun x => x.To) (fun x y => { x with To := y }) 2 := CJ.via (α := BD) (f := (fun x => (x.A0, x.GV, x.To) : BD → Int × Int × Int)) (hz := rfl) (he := fun _ _ => rfl) (CJ.comp CJ.snd (CJ.snd)) fun _ _ => rfl
structure BF where
 Code : Int
 MT : Int
 AO : Int
 AB : AB
 Dp : List BD
instance : AG BF := ⟨9, by decide, fun l x => AG.BO l x.Code ++ (AG.BO l x.MT ++ (AG.BO l x.AO ++ (AG.BO l x.AB ++ (AG.BO l x.Dp)))), fun x => by simp only [aq, AG.len]; rfl, fun x h => by simp only [BS, AG.Ec _ h]; rfl, fun x => by simp only [dk, AG.cell]; rfl⟩
instance : Ar BF := Ar.via (fun x => (x.Code, x.MT, x.AO, x.AB, x.Dp) : BF → Int × Int × Int × AB × (List BD)) rfl fun _ _ => rfl
theorem L5 : CJ BF AB (fun x => x.AB) (fun x y => { x with AB := y }) 3 := CJ.via (α := BF) (f := (fun x => (x.Code, x.MT, x.AO, x.AB, x.Dp) : BF → Int × Int × Int × AB × (List BD))) (hz := rfl) (he := fun _ _ => rfl) (CJ.comp CJ.snd (CJ.comp CJ.snd (CJ.comp CJ.snd (CJ.fst)))) fun _ _ => rfl
theorem M4 : CJ BF (List BD) (fun x => x.Dp) (fun x y => { x with Dp := y }) 8 := CJ.via (α := BF) (f := (fun x => (x.Code, x.MT, x.AO, x.AB, x.Dp) : BF → Int × Int × Int × AB × (List BD))) (hz := rfl) (he := fun _ _ => rfl) (CJ.comp CJ.snd (CJ.comp CJ.snd (CJ.comp CJ.snd (CJ.snd)))) fun _ _ => rfl
theorem Ew {H : A4} {d n : Nat} {rs rs1 : List Bf} {cs : List V} {x : BF} (h : MW n H d rs cs (x.Code, x.MT, x.AO, x.AB, x.Dp) rs1) : MW n H d rs cs x rs1 := h
theorem Er {H G : A4} {rs : List Bf} {S F : List Nat} {x : BF} {cs : List V} {j : Nat} (hO : A8 H G rs) (hj : rs[j]? = some (Ck S F x cs)) (lv n : Nat) (hn : fj (Ar.dep BF) n = true := by rfl) : ∃ M, AY lv G (n + 1) (.agg cs) = some (.agg [.int .i64 x.Code, .int .i64 x.MT, .int .i64 x.AO, .int .i64 x.AB.A5.A0, .int .i64 x.AB.A5.At, .int .i64 x.AB.A5.Way, .int .i64 x.AB.AI, A7 lv 0 x.AB.AF, A7 lv 0 x.Dp], M) := by
 have h := QM hO hj lv n hn
 have e : AG.BO lv x = [.int .i64 x.Code, .int .i64 x.MT, .int .i64 x.AO, .int .i64 x.AB.A5.A0, .int .i64 x.AB.A5.At, .int .i64 x.AB.A5.Way, .int .i64 x.AB.AI, A7 lv 0 x.AB.AF, A7 lv 0 x.Dp] := by
  show ([.int .i64 x.Code, .int .i64 x.MT, .int .i64 x.AO, .int .i64 x.AB.A5.A0, .int .i64 x.AB.A5.At, .int .i64 x.AB.A5.Way, .int .i64 x.AB.AI, A7 lv lv x.AB.AF, A7 lv lv x.Dp] : List V) = _
  simp only [A7, JG]
 rwa [e] at h
structure Bq where
 Code : Int
 At : Int
instance : AG Bq := ⟨2, by decide, fun l x => AG.BO l x.Code ++ (AG.BO l x.At), fun x => by simp only [aq, AG.len]; rfl, fun x h => by simp only [BS, AG.Ec _ h]; rfl, fun x => by simp only [dk, AG.cell]; rfl⟩
instance : Ar Bq := Ar.via (fun x => (x.Code, x.At) : Bq → Int × Int) rfl fun _ _ => rfl
instance : FT Bq := ⟨fun h => FT.inv (α := Int × Int) h⟩
instance : Cj Bq := ⟨fun G x => Cj.fl (α := Int × Int) G (x.Code, x.At), fun l x => Cj.Xd (α := Int × Int) l (x.Code, x.At), Cj.pos (α := Int × Int)⟩
structure Le where
 Fj : Int
 VX : Int
 Ld : Int
instance : AG Le := ⟨3, by decide, fun l x => AG.BO l x.Fj ++ (AG.BO l x.VX ++ (AG.BO l x.Ld)), fun x => by simp only [aq, AG.len]; rfl, fun x h => by simp only [BS, AG.Ec _ h]; rfl, fun x => by simp only [dk, AG.cell]; rfl⟩
instance : Ar Le := Ar.via (fun x => (x.Fj, x.VX, x.Ld) : Le → Int × Int × Int) rfl fun _ _ => rfl
instance : FT Le := ⟨fun h => FT.inv (α := Int × Int × Int) h⟩
instance : Cj Le := ⟨fun G x => Cj.fl (α := Int × Int × Int) G (x.Fj, x.VX, x.Ld), fun l x => Cj.Xd (α := Int × Int × Int) l (x.Fj, x.VX, x.Ld), Cj.pos (α := Int × Int × Int)⟩
theorem Rt : Aw ah 25 = some 2 := by rfl
theorem Ru : Aw ah 31 = some 5 := by rfl
theorem OJ : IX ah 26 = some false := by rfl
theorem X5 : D6 ah 25 = some true := by rfl
theorem X8 : AK ah 25 0 = some 0 := by rfl
theorem hJ : D6 ah 22 = some false := by rfl
theorem ZL : IX ah 22 = some false := by rfl
theorem iH : B4 ah 22 = some 80 := by rfl
theorem VQ : Aw ah 80 = some 4 := by rfl
theorem iA : D6 ah 80 = some true := by rfl
theorem XB : AK ah 80 0 = some 0 := by rfl
theorem OO : D6 ah 9 = some false := by rfl
theorem Zj : IX ah 9 = some true := by rfl
theorem X9 : AK ah 25 1 = some 1 := by rfl
theorem hQ : D6 ah 23 = some false := by rfl
theorem ZM : IX ah 23 = some false := by rfl
theorem iI : B4 ah 23 = some 84 := by rfl
theorem VR : Aw ah 84 = some 3 := by rfl
theorem iC : D6 ah 84 = some true := by rfl
theorem XC : AK ah 84 1 = some 1 := by rfl
theorem XD : AK ah 84 2 = some 2 := by rfl
theorem iB : D6 ah 82 = some false := by rfl
theorem cJ : IX ah 82 = some false := by rfl
theorem X6 : D6 ah 31 = some true := by rfl
theorem XA : AK ah 31 2 = some 4 := by rfl
theorem hZ : D6 ah 29 = some false := by rfl
theorem cI : IX ah 29 = some false := by rfl
theorem B2 : Aw ah 45 = some 2 := by rfl
theorem bX : BG ah 45 = some [(.tl 0 []), (.tl 0 [])] := by rfl
theorem GP : B4 ah 42 = some 100 := by rfl
theorem C2 : Aw ah 100 = some 4 := by rfl
theorem iD : CU ah 100 = some 40 := by rfl
theorem Rr : BG ah 100 = some [.str ByteArray.empty, .int .i64 0, .int .i64 0, .int .i64 0] := by rfl
theorem Fp : AK ah 100 0 = some 0 := by rfl
theorem j9 : Aw ah 9 = some 1 := by rfl
theorem cD : AK ah 80 1 = some 1 := by rfl
theorem B5 : D6 ah 3 = some false := by rfl
theorem Ci : AK ah 100 1 = some 1 := by rfl
theorem Ey : Aw ah 3 = some 1 := by rfl
theorem cE : AK ah 80 2 = some 2 := by rfl
theorem IL : AK ah 100 2 = some 2 := by rfl
theorem cF : AK ah 80 3 = some 3 := by rfl
theorem IM : AK ah 100 3 = some 3 := by rfl
theorem OI : D6 ah 100 = some true := by rfl
theorem C0 : AK ah 45 0 = some 0 := by rfl
theorem kQ : Aw ah 42 = some 1 := by rfl
theorem Gq : B4 ah 43 = some 104 := by rfl
theorem BL : Aw ah 104 = some 3 := by rfl
theorem iE : CU ah 104 = some 48 := by rfl
theorem J7 : BG ah 104 = some [.int .i64 0, .str ByteArray.empty, (.tl 0 [])] := by rfl
theorem cG : AK ah 84 0 = some 0 := by rfl
theorem DF : AK ah 104 0 = some 0 := by rfl
theorem EY : AK ah 104 1 = some 1 := by rfl
theorem CT : B4 ah 102 = some 89 := by rfl
theorem AS : Aw ah 89 = some 2 := by rfl
theorem kL : CU ah 89 = some 16 := by rfl
theorem Di : BG ah 89 = some [.int .i64 0, .int .i64 0] := by rfl
theorem kO : B4 ah 82 = some 140 := by rfl
theorem XG : Aw ah 140 = some 2 := by rfl
theorem h9 : D6 ah 140 = some true := by rfl
theorem ZI : AK ah 140 0 = some 0 := by rfl
theorem Fi : AK ah 89 0 = some 0 := by rfl
theorem ZJ : AK ah 140 1 = some 1 := by rfl
theorem IN : AK ah 89 1 = some 1 := by rfl
theorem Bz : D6 ah 89 = some true := by rfl
theorem Cu : AK ah 104 2 = some 2 := by rfl
theorem iL : Aw ah 102 = some 1 := by rfl
theorem HI : D6 ah 104 = some true := by rfl
theorem Cv : AK ah 45 1 = some 1 := by rfl
theorem kR : Aw ah 43 = some 1 := by rfl
theorem CL : D6 ah 45 = some true := by rfl
theorem HV : B4 ah 26 = some 3 := by rfl
theorem lN : CU ah 3 = some 8 := by rfl
theorem dF : BG ah 3 = some [.int .i64 0] := by rfl
theorem Bt : Aw ah 37 = some 5 := by rfl
theorem Qf : BG ah 37 = some [.int .i64 0, .int .i64 0, .int .i64 0, .int .i64 0, (.tl 0 [])] := by rfl
theorem cB : AK ah 31 0 = some 0 := by rfl
theorem kK : D6 ah 28 = some true := by rfl
theorem iM : Aw ah 28 = some 3 := by rfl
theorem EC : Aw ah 34 = some 3 := by rfl
theorem TJ : BG ah 34 = some [.int .i64 0, .int .i64 0, .int .i64 0] := by rfl
theorem bY : AK ah 28 0 = some 0 := by rfl
theorem DT : AK ah 34 0 = some 0 := by rfl
theorem bZ : AK ah 28 1 = some 1 := by rfl
theorem Ej : AK ah 34 1 = some 1 := by rfl
theorem cA : AK ah 28 2 = some 2 := by rfl
theorem DU : AK ah 34 2 = some 2 := by rfl
theorem J8 : D6 ah 34 = some true := by rfl
theorem CR : AK ah 37 0 = some 0 := by rfl
theorem cC : AK ah 31 1 = some 3 := by rfl
theorem GC : AK ah 37 1 = some 3 := by rfl
theorem GB : B4 ah 35 = some 95 := by rfl
theorem BY : Aw ah 95 = some 2 := by rfl
theorem X7 : CU ah 95 = some 16 := by rfl
theorem G4 : BG ah 95 = some [.int .i64 0, .int .i64 0] := by rfl
theorem kN : B4 ah 29 = some 107 := by rfl
theorem XF : Aw ah 107 = some 2 := by rfl
theorem gZ : D6 ah 107 = some true := by rfl
theorem ZC : AK ah 107 0 = some 0 := by rfl
theorem EG : AK ah 95 0 = some 0 := by rfl
theorem ZD : AK ah 107 1 = some 1 := by rfl
theorem Ek : AK ah 95 1 = some 1 := by rfl
theorem Gk : D6 ah 95 = some true := by rfl
theorem DD : AK ah 37 2 = some 4 := by rfl
theorem XH : Aw ah 35 = some 1 := by rfl
theorem Eh : D6 ah 37 = some true := by rfl
theorem Cc : Aw ah 40 = some 9 := by rfl
theorem LX : BG ah 40 = some [.int .i64 0, .int .i64 0, .int .i64 0, .int .i64 0, .int .i64 0, .int .i64 0, .int .i64 0, (.tl 0 []), (.tl 0 [])] := by rfl
theorem Cz : Aw ah 134 = some 2 := by rfl
theorem FP : BG ah 134 = some [.int .i64 0, .int .i64 0] := by rfl
theorem Ei : D6 ah 42 = some false := by rfl
theorem IZ : IX ah 42 = some false := by rfl
theorem Gj : D6 ah 43 = some false := by rfl
theorem K2 : IX ah 43 = some false := by rfl
theorem Gm : Dg ah 134 = some [(0, 1), (1, 1)] := by rfl
theorem HJ : D6 ah 134 = some true := by rfl
theorem FQ : D6 ah 102 = some false := by rfl
theorem HK : IX ah 102 = some false := by rfl
theorem Od : Dg ah 89 = some [(0, 1), (1, 1)] := by rfl
theorem TK : IQ ah 89 = some [.i, .i] := by decide +kernel
theorem ZH : AK ah 134 0 = some 0 := by rfl
theorem IY : D6 ah 35 = some false := by rfl
theorem K1 : IX ah 35 = some false := by rfl
theorem VP : Dg ah 95 = some [(0, 1), (1, 1)] := by rfl
theorem ZK : Dg ah 40 = some [(0, 1), (1, 1), (2, 1), (3, 5), (8, 1)] := by rfl
theorem GA : D6 ah 40 = some true := by rfl
theorem J9 : AK ah 40 0 = some 0 := by rfl
theorem Gl : AK ah 40 1 = some 1 := by rfl
theorem DE : AK ah 40 3 = some 3 := by rfl
theorem LY : AK ah 40 2 = some 2 := by rfl
theorem cH : Dg ah 34 = some [(0, 1), (1, 1), (2, 1)] := by rfl
theorem JA : AK ah 40 4 = some 8 := by rfl
theorem VO : D6 ah 38 = some false := by rfl
theorem Gr : Aw ah 98 = some 3 := by rfl
theorem Rs : BG ah 98 = some [.int .i64 0, .int .i64 0, .int .i64 0] := by rfl
theorem iK : Dg ah 98 = some [(0, 1), (1, 1), (2, 1)] := by rfl
theorem ZB : D6 ah 98 = some true := by rfl
theorem Kg : B4 ah 38 = some 98 := by rfl
theorem iF : CU ah 98 = some 24 := by rfl
theorem iN : Aw ah 38 = some 1 := by rfl
theorem UM : LF ah 141 = some (.one .s, 4) := by decide +kernel
theorem l7 : Je ah 4 = some (GI.pv (false : Bool)) := by rfl
theorem UN : LF ah 144 = some (.many [.i, .i], 3) := by decide +kernel
theorem j8 : Je ah 3 = some (GI.pv (0 : Int)) := by rfl
theorem iJ : IQ ah 134 = some [.i, .i] := by decide +kernel
theorem kM : Tryz.f70.body.bind KL = some 35 := by rfl
theorem OK : Aw ah 119 = some 3 := by rfl
theorem UL : BG ah 119 = some [.int .i64 0, .int .i64 0, .int .i64 0] := by rfl
theorem Zi : Dg ah 119 = some [(0, 1), (1, 1), (2, 1)] := by rfl
theorem Zh : D6 ah 119 = some true := by rfl
theorem ZE : AK ah 119 0 = some 0 := by rfl
theorem ZF : AK ah 119 1 = some 1 := by rfl
theorem ZG : AK ah 119 2 = some 2 := by rfl
theorem kP : Dg ah 37 = some [(0, 3), (3, 1), (4, 1)] := by rfl
theorem XE : IX ah 38 = some false := by rfl
theorem Qg : AK ah 98 0 = some 0 := by rfl
theorem Qh : AK ah 98 1 = some 1 := by rfl
theorem Qi : AK ah 98 2 = some 2 := by rfl
theorem iG : B4 ah 138 = some 5 := by rfl
theorem lO : Aw ah 5 = some 1 := by rfl
theorem lM : BG ah 5 = some [.int .u8 0] := by rfl
def cU (aA0 : A0) (aLeft1 : Int) : Option Int :=
 (bif decide ((AV (aLeft1 - (aA0.Name.size : Int))) < 0) then some (-1:Int) else some (AV (aLeft1 - (aA0.Name.size : Int))))
theorem YE (hk : cU aA0 aLeft1 = some r) (hlk : 0 < lk.length := by simp) : Ai ah hh 44 [.agg [.str aA0.Name, iv aA0.BN, iv aA0.Bv, iv aA0.CX], iv aLeft1] H lk = some (iv r, H) := by
 refine AA Tryz.func44 rfl Tryz.ntmps44 Tryz.results44 rfl rfl fun hO => ?_
 unfold cU at hk
 refine sr (Ax (cs := [_, _, _, _]) hO VQ (fun b1 G hO => ?_))
 refine pA (.int _ _) (pg (sr ?_))
 refine pM (.int _ _) ?_
 refine Ao XB hO 0 (.str _) OO ?_
 refine BC Zj ?_
 refine AR ?_
 refine pA (.int _ _) (pg (AX (sr ?_)))
 refine pM (.int _ _) ?_
 refine AR (pg (B1 hk ?_ ?_)) <;> intro hk
 ·refine sr (pA (.int _ _) (pg (Ak (gr ?_))))
  cases hk; exact AU hO
 refine B7 (gn (sr (pM (.int _ _) ?_)))
 refine pA (.int _ _) (pg (Ak ?_))
 cases hk; exact AU hO
def Pl (aA0 : List A0) : (Int × Int) → Option ((Int × Int) ⊕ Int) := fun s =>
 (bif decide (s.2 < (aA0.length : Int)) then ((Aa aA0 s.2).bind fun c3 => ((cU c3 s.1).bind fun v4 => (bif decide (v4 < 0) then ((some (-1:Int)).map Sum.inr) else some (.inl (v4, AV (s.2 + 1)))))) else ((some s.1).map Sum.inr))
def e6 (aA0 : List A0) (aLeft1 : Int) : Option Int :=
 (bif decide ((AV (aLeft1 - (aA0.length : Int))) < 0) then some (-1:Int) else (AP (Pl aA0) (AV (aLeft1 - (aA0.length : Int)), (0:Int))))
theorem Xr (hk : e6 aA0 aLeft1 = some r) (hlk : 0 < lk.length := by simp) : Ai ah hh 20 [A7 l1 0 aA0, iv aLeft1] H lk = some (iv r, H) := by
 refine AA Tryz.func20 rfl Tryz.ntmps20 Tryz.results20 rfl rfl fun hO => ?_
 unfold e6 at hk
 refine sr (pA (.int _ _) (pg (sr ?_)))
 refine pM (.int _ _) ?_
 refine pM (.lit _ _ _) ?_
 refine BC ZL ?_
 refine AR ?_
 refine pA (.int _ _) (pg (AX (sr ?_)))
 refine pM (.int _ _) ?_
 refine AR (pg (B1 hk ?_ ?_)) <;> intro hk
 ·refine sr (pA (.int _ _) (pg (Ak (gr ?_))))
  cases hk; exact AU hO
 refine B7 (gn (AX (sr (pA (.int _ _) (pg (CE ?_))))))
 refine AJ (F := Pl aA0) (fun s S' => ∃ J G, A8 H G [] ∧ S' = ⟨Aq [(0, A7 l1 0 aA0),(1, iv s.1),(5, iv s.2)] J, G⟩) hk ⟨_, _, hO, sh⟩ ?_
 rintro ⟨x1, x2⟩ _ y1 ⟨J, G, hO, rfl⟩ hk hx1
 refine AX (sr (pM (.int _ _) ?_))
 refine pM (.lit _ _ _) ?_
 refine BC ZL ?_
 refine AR (pg (B1 hk ?_ ?_)) <;> intro hk
 ·refine B7 (gn (AX (CE (sr (pM (.lit _ _ _) ?_)))))
  refine pM (.int _ _) (bk hk fun c3 hc3 hk => ?_)
  refine pX hc3 iH VQ ?_
  refine DG (.agg [_, _, _, _]) (Fh (lm := 0) (off := 0) hc3 iA VQ) ?_
  refine pM (.int _ _) (bk hk fun v4 hv4 hk => ?_)
  refine AL (fun _ => YE hv4) ?_
  refine pA (.int _ _) (pg (sr ?_))
  refine pM (.int _ _) ?_
  refine AR (pg (B1 hk ?_ ?_)) <;> intro hk
  ·refine sr (pA (.int _ _) (pg (Ak (br (gr (gr (br (gr (have hk := lx hx1 hk; ?_)))))))))
   cases hk; exact AU hO
  refine B7 (bn (gn (Da (pM (.int _ _) ?_))))
  refine AR ?_
  refine pA (.int _ _) (pg ?_)
  cases hk; exact ⟨_, rfl, _, _, hO, sh⟩
 refine Eo (ge (ge (be (gn (have hk := lx hx1 hk; sr (pM (.int _ _) ?_))))))
 refine pA (.int _ _) (pg (Ak ?_))
 cases hk; exact AU hO
def fL (aA0 : List Ay) (aLeft1 : Int) : Option Int :=
 (bif decide ((AV (aLeft1 - (aA0.length : Int))) < 0) then some (-1:Int) else some (AV (aLeft1 - (aA0.length : Int))))
theorem Ye (hk : fL aA0 aLeft1 = some r) (hlk : 0 < lk.length := by simp) : Ai ah hh 84 [A7 l1 0 aA0, iv aLeft1] H lk = some (iv r, H) := by
 refine AA Tryz.func84 rfl Tryz.ntmps84 Tryz.results84 rfl rfl fun hO => ?_
 unfold fL at hk
 refine sr (pA (.int _ _) (pg (sr ?_)))
 refine pM (.int _ _) ?_
 refine pM (.lit _ _ _) ?_
 refine BC cJ ?_
 refine AR ?_
 refine pA (.int _ _) (pg (AX (sr ?_)))
 refine pM (.int _ _) ?_
 refine AR (pg (B1 hk ?_ ?_)) <;> intro hk
 ·refine sr (pA (.int _ _) (pg (Ak (gr ?_))))
  cases hk; exact AU hO
 refine B7 (gn (sr (pM (.int _ _) ?_)))
 refine pA (.int _ _) (pg (Ak ?_))
 cases hk; exact AU hO
def cV (aA0 : AO) (aLeft1 : Int) : Option Int :=
 (bif decide ((AV (aLeft1 - (aA0.Name.size : Int))) < 0) then some (-1:Int) else ((fL aA0.Ends (AV (aLeft1 - (aA0.Name.size : Int)))).bind fun v2 => (bif decide (v2 < 0) then some (-1:Int) else some v2)))
theorem YF (hk : cV aA0 aLeft1 = some r) (hlk : 0 < lk.length := by simp) : Ai ah hh 45 [.agg [iv aA0.Kind, .str aA0.Name, A7 l1 0 aA0.Ends], iv aLeft1] H lk = some (iv r, H) := by
 refine AA Tryz.func45 rfl Tryz.ntmps45 Tryz.results45 rfl rfl fun hO => ?_
 unfold cV at hk
 refine sr (Ax (cs := [_, _, _]) hO VR (fun b1 G hO => ?_))
 refine pA (.int _ _) (pg (sr ?_))
 refine pM (.int _ _) ?_
 refine Ao XC hO 0 (.str _) OO ?_
 refine BC Zj ?_
 refine AR ?_
 refine pA (.int _ _) (pg (AX (sr ?_)))
 refine pM (.int _ _) ?_
 refine AR (pg (B1 hk ?_ ?_)) <;> intro hk
 ·refine sr (pA (.int _ _) (pg (Ak (gr ?_))))
  cases hk; exact AU hO
 refine B7 (gn (sr (Ao XD hO 0 (.lit _ _ _) iB ?_)))
 refine pM (.int _ _) (bk hk fun v2 hv2 hk => ?_)
 refine AL (fun _ => Ye hv2) ?_
 refine pA (.int _ _) (pg (AX (sr ?_)))
 refine pM (.int _ _) ?_
 refine AR (pg (B1 hk ?_ ?_)) <;> intro hk
 ·refine sr (pA (.int _ _) (pg (Ak (gr ?_))))
  cases hk; exact AU hO
 refine B7 (gn (sr (pM (.int _ _) ?_)))
 refine pA (.int _ _) (pg (Ak ?_))
 cases hk; exact AU hO
def Pm (aA0 : List AO) : (Int × Int) → Option ((Int × Int) ⊕ Int) := fun s =>
 (bif decide (s.2 < (aA0.length : Int)) then ((Aa aA0 s.2).bind fun c3 => ((cV c3 s.1).bind fun v4 => (bif decide (v4 < 0) then ((some (-1:Int)).map Sum.inr) else some (.inl (v4, AV (s.2 + 1)))))) else ((some s.1).map Sum.inr))
def e7 (aA0 : List AO) (aLeft1 : Int) : Option Int :=
 (bif decide ((AV (aLeft1 - (aA0.length : Int))) < 0) then some (-1:Int) else (AP (Pm aA0) (AV (aLeft1 - (aA0.length : Int)), (0:Int))))
theorem Xs (hk : e7 aA0 aLeft1 = some r) (hlk : 0 < lk.length := by simp) : Ai ah hh 21 [A7 l1 m2 aA0, iv aLeft1] H lk = some (iv r, H) := by
 refine AA Tryz.func21 rfl Tryz.ntmps21 Tryz.results21 rfl rfl fun hO => ?_
 unfold e7 at hk
 refine sr (pA (.int _ _) (pg (sr ?_)))
 refine pM (.int _ _) ?_
 refine pM (.lit _ _ _) ?_
 refine BC ZM ?_
 refine AR ?_
 refine pA (.int _ _) (pg (AX (sr ?_)))
 refine pM (.int _ _) ?_
 refine AR (pg (B1 hk ?_ ?_)) <;> intro hk
 ·refine sr (pA (.int _ _) (pg (Ak (gr ?_))))
  cases hk; exact AU hO
 refine B7 (gn (AX (sr (pA (.int _ _) (pg (CE ?_))))))
 refine AJ (F := Pm aA0) (fun s S' => ∃ J G, A8 H G [] ∧ S' = ⟨Aq [(0, A7 l1 m2 aA0),(1, iv s.1),(5, iv s.2)] J, G⟩) hk ⟨_, _, hO, sh⟩ ?_
 rintro ⟨x1, x2⟩ _ y1 ⟨J, G, hO, rfl⟩ hk hx1
 refine AX (sr (pM (.int _ _) ?_))
 refine pM (.lit _ _ _) ?_
 refine BC ZM ?_
 refine AR (pg (B1 hk ?_ ?_)) <;> intro hk
 ·refine B7 (gn (AX (CE (sr (pM (.lit _ _ _) ?_)))))
  refine pM (.int _ _) (bk hk fun c3 hc3 hk => ?_)
  refine pX hc3 iI VR ?_
  refine DG (.agg [_, _, _]) (Fh (lm := m2) (off := 0) hc3 iC VR) ?_
  refine pM (.int _ _) (bk hk fun v4 hv4 hk => ?_)
  refine AL (fun _ => YF hv4) ?_
  refine pA (.int _ _) (pg (sr ?_))
  refine pM (.int _ _) ?_
  refine AR (pg (B1 hk ?_ ?_)) <;> intro hk
  ·refine sr (pA (.int _ _) (pg (Ak (br (gr (gr (br (gr (have hk := lx hx1 hk; ?_)))))))))
   cases hk; exact AU hO
  refine B7 (bn (gn (Da (pM (.int _ _) ?_))))
  refine AR ?_
  refine pA (.int _ _) (pg ?_)
  cases hk; exact ⟨_, rfl, _, _, hO, sh⟩
 refine Eo (ge (ge (be (gn (have hk := lx hx1 hk; sr (pM (.int _ _) ?_))))))
 refine pA (.int _ _) (pg (Ak ?_))
 cases hk; exact AU hO
def f4 (aA0 : Az) (aLeft1 : Int) : Option Int :=
 ((e6 aA0.A3 aLeft1).bind fun v2 => (bif decide (v2 < 0) then some (-1:Int) else ((e7 aA0.A1 v2).bind fun v3 => (bif decide (v3 < 0) then some (-1:Int) else some v3))))
theorem aK (hk : f4 aA0 aLeft1 = some r) (hlk : 0 < lk.length := by simp) : Ai ah hh 4 [.agg [A7 l1 0 aA0.A3, A7 l2 m3 aA0.A1], iv aLeft1] H lk = some (iv r, H) := by
 refine AA Tryz.func4 rfl Tryz.ntmps4 Tryz.results4 rfl rfl fun hO => ?_
 unfold f4 at hk
 refine sr (Ax (cs := [_, _]) hO Rt (fun b1 G hO => ?_))
 refine pA (.int _ _) (pg (sr ?_))
 refine Ao X8 hO 0 (.lit _ _ _) hJ ?_
 refine pM (.int _ _) (bk hk fun v2 hv2 hk => ?_)
 refine AL (fun _ => Xr hv2) ?_
 refine pA (.int _ _) (pg (AX (sr ?_)))
 refine pM (.int _ _) ?_
 refine AR (pg (B1 hk ?_ ?_)) <;> intro hk
 ·refine sr (pA (.int _ _) (pg (Ak (gr ?_))))
  cases hk; exact AU hO
 refine B7 (gn (sr (Ao X9 hO 0 (.lit _ _ _) hQ ?_)))
 refine pM (.int _ _) (bk hk fun v3 hv3 hk => ?_)
 refine AL (fun _ => Xs hv3) ?_
 refine pA (.int _ _) (pg (AX (sr ?_)))
 refine pM (.int _ _) ?_
 refine AR (pg (B1 hk ?_ ?_)) <;> intro hk
 ·refine sr (pA (.int _ _) (pg (Ak (gr ?_))))
  cases hk; exact AU hO
 refine B7 (gn (sr (pM (.int _ _) ?_)))
 refine pA (.int _ _) (pg (Ak ?_))
 cases hk; exact AU hO
def e8 (aA0 : List AW) (aLeft1 : Int) : Option Int :=
 (bif decide ((AV (aLeft1 - (aA0.length : Int))) < 0) then some (-1:Int) else some (AV (aLeft1 - (aA0.length : Int))))
theorem Xt (hk : e8 aA0 aLeft1 = some r) (hlk : 0 < lk.length := by simp) : Ai ah hh 22 [A7 l1 0 aA0, iv aLeft1] H lk = some (iv r, H) := by
 refine AA Tryz.func22 rfl Tryz.ntmps22 Tryz.results22 rfl rfl fun hO => ?_
 unfold e8 at hk
 refine sr (pA (.int _ _) (pg (sr ?_)))
 refine pM (.int _ _) ?_
 refine pM (.lit _ _ _) ?_
 refine BC cI ?_
 refine AR ?_
 refine pA (.int _ _) (pg (AX (sr ?_)))
 refine pM (.int _ _) ?_
 refine AR (pg (B1 hk ?_ ?_)) <;> intro hk
 ·refine sr (pA (.int _ _) (pg (Ak (gr ?_))))
  cases hk; exact AU hO
 refine B7 (gn (sr (pM (.int _ _) ?_)))
 refine pA (.int _ _) (pg (Ak ?_))
 cases hk; exact AU hO
def f5 (aA0 : AB) (aLeft1 : Int) : Option Int :=
 ((e8 aA0.AF aLeft1).bind fun v2 => (bif decide (v2 < 0) then some (-1:Int) else some v2))
theorem aP (hk : f5 aA0 aLeft1 = some r) (hlk : 0 < lk.length := by simp) : Ai ah hh 5 [.agg [iv aA0.A5.A0, iv aA0.A5.At, iv aA0.A5.Way, iv aA0.AI, A7 l1 0 aA0.AF], iv aLeft1] H lk = some (iv r, H) := by
 refine AA Tryz.func5 rfl Tryz.ntmps5 Tryz.results5 rfl rfl fun hO => ?_
 unfold f5 at hk
 refine sr (Ax (cs := [_, _, _, _, _]) hO Ru (fun b1 G hO => ?_))
 refine pA (.int _ _) (pg (sr ?_))
 refine Ao XA hO 0 (.lit _ _ _) hZ ?_
 refine pM (.int _ _) (bk hk fun v2 hv2 hk => ?_)
 refine AL (fun _ => Xt hv2) ?_
 refine pA (.int _ _) (pg (AX (sr ?_)))
 refine pM (.int _ _) ?_
 refine AR (pg (B1 hk ?_ ?_)) <;> intro hk
 ·refine sr (pA (.int _ _) (pg (Ak (gr ?_))))
  cases hk; exact AU hO
 refine B7 (gn (sr (pM (.int _ _) ?_)))
 refine pA (.int _ _) (pg (Ak ?_))
 cases hk; exact AU hO
def eV (aA0 : A0) : Option A0 :=
 some aA0
theorem YO (hk : eV aA0 = some r) (hlk : 0 < lk.length := by simp) : Ai ah hh 58 [.agg [.str aA0.Name, iv aA0.BN, iv aA0.Bv, iv aA0.CX]] H lk = some (.agg [.str r.Name, iv r.BN, iv r.Bv, iv r.CX], H) := by
 refine AA Tryz.func58 rfl Tryz.ntmps58 Tryz.results58 rfl rfl fun hO => ?_
 unfold eV at hk
 refine sr (Ax (cs := [_, _, _, _]) hO VQ (fun b1 G hO => Bd hO C2 Rr (fun b2 G hO => pg (sr (Bd hO C2 Rr (fun b3 G hO => pg (sr ?_)))))))
 refine Ao XB hO 2 (.str _) OO ?_
 refine pF Fp ?_
 refine CM (xs := [_]) hO 0 j9 rfl (fun G hO => pg (sr ?_))
 refine Ao cD hO 2 (.int _ _) B5 ?_
 refine pF Ci ?_
 refine CM (xs := [_]) hO 0 Ey rfl (fun G hO => pg (sr ?_))
 refine Ao cE hO 2 (.int _ _) B5 ?_
 refine pF IL ?_
 refine CM (xs := [_]) hO 0 Ey rfl (fun G hO => pg (sr ?_))
 refine Ao cF hO 2 (.int _ _) B5 ?_
 refine pF IM ?_
 refine CM (xs := [_]) hO 0 Ey rfl (fun G hO => pg (sr ?_))
 refine Bj hO 0 [_, _, _, _] OI C2 ?_
 refine CM (xs := [_, _, _, _]) hO 1 C2 rfl (fun G hO => pg (Ak ?_))
 replace hk := an hk; subst hk; exact CP hO (BU (n := 2) (Ac (bH _) (Ac (AD _ _) (Ac (AD _ _) (Ac (AD _ _) (C8)))))) (Cb hO 1 [_, _, _, _] OI C2 Bh)
def Mq (aA0 : List A0) : ((List A0) × Int) → Option (((List A0) × Int) ⊕ (List A0)) := fun s =>
 (bif decide (s.2 < (aA0.length : Int)) then ((Aa aA0 s.2).bind fun c5 => ((eV c5).bind fun v6 => ((Aa s.1 s.2).bind fun c7 => some (.inl (s.1.set s.2.toNat v6, AV (s.2 + 1)))))) else ((some s.1).map Sum.inr))
def e9 (aA0 : List A0) : Option (List A0) :=
 ((It 40 (aA0.length : Int)).bind fun m1 => (AP (Mq aA0) (ch m1 (⟨ByteArray.empty, 0, 0, 0⟩ : A0), (0:Int))))
theorem Xw (hk : e9 aA0 = some r) (hlk : 0 < lk.length := by simp) : ∃ v H1, Ai ah hh 25 [A7 l1 0 aA0] H lk = some (v, H1) ∧ Jf H r v H1 := by
 refine BA Tryz.func25 rfl Tryz.ntmps25 Tryz.results25 rfl rfl ?_
 have hO := A8.nil H
 unfold e9 at hk
 refine sr (pA (.tl 0 []) (pg (sr ?_)))
 refine pM (.lit _ _ _) ?_
 refine BC ZL (bk hk fun m1 hm1 hk => ?_)
 refine iZ hO hm1 (⟨ByteArray.empty, 0, 0, 0⟩ : A0) GP C2 iD Rr (fun b2 G hO => ?_)
 refine pA (.sl _ _ _) (pg (AX (sr ?_)))
 refine pA (.int _ _) (pg (CE ?_))
 refine AJ (F := Mq aA0) (fun s S' => ∃ J G, s.1.length = m1 ∧ A8 H G [.B6 b2 (.cells 4 (A9 0 s.1))] ∧ S' = ⟨Aq [(0, A7 l1 0 aA0),(3, .sl b2 0 m1),(4, iv s.2)] J, G⟩) hk ⟨_, _, gj, hO, sh⟩ ?_
 rintro ⟨x3, x4⟩ _ y1 ⟨J, G, hl3, hO, rfl⟩ hk hx1
 refine AX (sr (pM (.int _ _) ?_))
 refine pM (.lit _ _ _) ?_
 refine BC ZL ?_
 refine AR (pg (B1 hk ?_ ?_)) <;> intro hk
 ·refine B7 (gn (AX (CE (Da (pM (.sl _ _ _) ?_)))))
  refine pM (.int _ _) ?_
  refine pM (.lit _ _ _) ?_
  refine pM (.int _ _) (bk hk fun c5 hc5 hk => ?_)
  refine pX hc5 iH VQ ?_
  refine DG (.agg [_, _, _, _]) (Fh (lm := 0) (off := 0) hc5 iA VQ) (bk hk fun v6 hv6 hk => ?_)
  refine AL (fun _ => YO hv6) (bk hk fun c7 hc7 hk => ?_)
  refine j7 hl3 hc7 GP C2 ?_
  refine j0 hO 0 hc7 C2 rfl v6 (.agg [_, _, _, _]) (fun G hO => pE (bn (gn (Da ?_))))
  refine pM (.int _ _) ?_
  refine AR ?_
  refine pA (.int _ _) (pg ?_)
  cases hk; exact ⟨_, rfl, _, _, (List.length_set.trans hl3), hO, sh⟩
 refine Eo (ge (ge (be (gn (have hk := lx hx1 hk; sr (pM (.sl _ _ _) ?_))))))
 refine pA (.sl _ _ _) (pg (Ak ?_))
 replace hk := an hk; subst hk; exact NL hO (MR hl3 hlk 0) (Cp (.sl _ _ _) Bh)
def fW (aA0 : Ay) : Option Ay :=
 some aA0
theorem Yo (hk : fW aA0 = some r) (hlk : 0 < lk.length := by simp) : Ai ah hh 97 [.agg [iv aA0.A0, iv aA0.B9]] H lk = some (.agg [iv r.A0, iv r.B9], H) := by
 refine AA Tryz.func97 rfl Tryz.ntmps97 Tryz.results97 rfl rfl fun hO => ?_
 unfold fW at hk
 refine sr (Ax (cs := [_, _]) hO XG (fun b1 G hO => Bd hO AS Di (fun b2 G hO => pg (sr (Bd hO AS Di (fun b3 G hO => pg (sr ?_)))))))
 refine Ao ZI hO 2 (.int _ _) B5 ?_
 refine pF Fi ?_
 refine CM (xs := [_]) hO 0 Ey rfl (fun G hO => pg (sr ?_))
 refine Ao ZJ hO 2 (.int _ _) B5 ?_
 refine pF IN ?_
 refine CM (xs := [_]) hO 0 Ey rfl (fun G hO => pg (sr ?_))
 refine Bj hO 0 [_, _] Bz AS ?_
 refine CM (xs := [_, _]) hO 1 AS rfl (fun G hO => pg (Ak ?_))
 replace hk := an hk; subst hk; exact CP hO (BU (n := 2) (Ac (AD _ _) (Ac (AD _ _) (C8)))) (Cb hO 1 [_, _] Bz AS Bh)
def N8 (aA0 : List Ay) : ((List Ay) × Int) → Option (((List Ay) × Int) ⊕ (List Ay)) := fun s =>
 (bif decide (s.2 < (aA0.length : Int)) then ((Aa aA0 s.2).bind fun c5 => ((fW c5).bind fun v6 => ((Aa s.1 s.2).bind fun c7 => some (.inl (s.1.set s.2.toNat v6, AV (s.2 + 1)))))) else ((some s.1).map Sum.inr))
def fS (aA0 : List Ay) : Option (List Ay) :=
 ((It 16 (aA0.length : Int)).bind fun m1 => (AP (N8 aA0) (ch m1 (⟨0, 0⟩ : Ay), (0:Int))))
theorem Yj (hk : fS aA0 = some r) (hlk : 0 < lk.length := by simp) : ∃ v H1, Ai ah hh 91 [A7 l1 0 aA0] H lk = some (v, H1) ∧ Jf H r v H1 := by
 refine BA Tryz.func91 rfl Tryz.ntmps91 Tryz.results91 rfl rfl ?_
 have hO := A8.nil H
 unfold fS at hk
 refine sr (pA (.tl 0 []) (pg (sr ?_)))
 refine pM (.lit _ _ _) ?_
 refine BC cJ (bk hk fun m1 hm1 hk => ?_)
 refine iZ hO hm1 (⟨0, 0⟩ : Ay) CT AS kL Di (fun b2 G hO => ?_)
 refine pA (.sl _ _ _) (pg (AX (sr ?_)))
 refine pA (.int _ _) (pg (CE ?_))
 refine AJ (F := N8 aA0) (fun s S' => ∃ J G, s.1.length = m1 ∧ A8 H G [.B6 b2 (.cells 2 (A9 0 s.1))] ∧ S' = ⟨Aq [(0, A7 l1 0 aA0),(3, .sl b2 0 m1),(4, iv s.2)] J, G⟩) hk ⟨_, _, gj, hO, sh⟩ ?_
 rintro ⟨x3, x4⟩ _ y1 ⟨J, G, hl3, hO, rfl⟩ hk hx1
 refine AX (sr (pM (.int _ _) ?_))
 refine pM (.lit _ _ _) ?_
 refine BC cJ ?_
 refine AR (pg (B1 hk ?_ ?_)) <;> intro hk
 ·refine B7 (gn (AX (CE (Da (pM (.sl _ _ _) ?_)))))
  refine pM (.int _ _) ?_
  refine pM (.lit _ _ _) ?_
  refine pM (.int _ _) (bk hk fun c5 hc5 hk => ?_)
  refine pX hc5 kO XG ?_
  refine DG (.agg [_, _]) (Fh (lm := 0) (off := 0) hc5 h9 XG) (bk hk fun v6 hv6 hk => ?_)
  refine AL (fun _ => Yo hv6) (bk hk fun c7 hc7 hk => ?_)
  refine j7 hl3 hc7 CT AS ?_
  refine j0 hO 0 hc7 AS rfl v6 (.agg [_, _]) (fun G hO => pE (bn (gn (Da ?_))))
  refine pM (.int _ _) ?_
  refine AR ?_
  refine pA (.int _ _) (pg ?_)
  cases hk; exact ⟨_, rfl, _, _, (List.length_set.trans hl3), hO, sh⟩
 refine Eo (ge (ge (be (gn (have hk := lx hx1 hk; sr (pM (.sl _ _ _) ?_))))))
 refine pA (.sl _ _ _) (pg (Ak ?_))
 replace hk := an hk; subst hk; exact NL hO (MR hl3 hlk 0) (Cp (.sl _ _ _) Bh)
def eW (aA0 : AO) : Option AO :=
 ((fS aA0.Ends).bind fun v4 => some ({ Kind := aA0.Kind, Name := aA0.Name, Ends := v4 } : AO))
theorem YP (hk : eW aA0 = some r) (hlk : 0 < lk.length := by simp) : ∃ v H1, Ai ah hh 59 [.agg [iv aA0.Kind, .str aA0.Name, A7 l1 0 aA0.Ends]] H lk = some (v, H1) ∧ HM H r v H1 := by
 refine BA Tryz.func59 rfl Tryz.ntmps59 Tryz.results59 rfl rfl ?_
 have hO := A8.nil H
 unfold eW at hk
 refine sr (Ax (cs := [_, _, _]) hO VR (fun b1 G hO => Bd hO BL J7 (fun b2 G hO => pg (sr (Bd hO BL J7 (fun b3 G hO => pg (sr ?_)))))))
 refine Ao cG hO 2 (.int _ _) B5 ?_
 refine pF DF ?_
 refine CM (xs := [_]) hO 0 Ey rfl (fun G hO => pg (sr ?_))
 refine Ao XC hO 2 (.str _) OO ?_
 refine pF EY ?_
 refine CM (xs := [_]) hO 0 j9 rfl (fun G hO => pg (sr ?_))
 refine Ao XD hO 2 (.lit _ _ _) iB (bk hk fun v4 hv4 hk => ?_)
 refine Zd hO (fun _ => Yj hv4) (fun u5 F5 G hO => ?_)
 refine pF Cu ?_
 have hc6 := DP hO (j := 0) rfl
 refine CM (xs := [_]) hO 1 iL rfl (fun G hO => ?_) (h3 := hc6.1) (h6 := EP hc6.2)
 refine pg (sr (Bj hO 1 [_, _, _] HI BL ?_))
 have hc7 := DP hO (j := 0) rfl
 refine CM (xs := [_, _, _]) hO 2 BL rfl (fun G hO => ?_) (h6 := (AE rfl (AE rfl (AE hc7.2 DM))))
 refine pg (Ak ?_)
 replace hk := an hk; subst hk; exact Ez hO (XJ (Ad (c1 := [_]) (Bo aA0.Kind) (Ad (c1 := [_]) (cL aA0.Name) (GQ 0)))) (Cb hO 2 [_, _, _] HI BL Bh)
def Mr (aA0 : List AO) : ((List AO) × Int) → Option (((List AO) × Int) ⊕ (List AO)) := fun s =>
 (bif decide (s.2 < (aA0.length : Int)) then ((Aa aA0 s.2).bind fun c7 => ((eW c7).bind fun v8 => ((Aa s.1 s.2).bind fun c10 => some (.inl (s.1.set s.2.toNat v8, AV (s.2 + 1)))))) else ((some s.1).map Sum.inr))
def eA (aA0 : List AO) : Option (List AO) :=
 ((It 48 (aA0.length : Int)).bind fun m1 => (AP (Mr aA0) (ch m1 (⟨0, ByteArray.empty, []⟩ : AO), (0:Int))))
theorem Xx (hk : eA aA0 = some r) (hlk : 0 < lk.length := by simp) : ∃ v H1, Ai ah hh 26 [A7 l1 m2 aA0] H lk = some (v, H1) ∧ Jf H r v H1 := by
 refine BA Tryz.func26 rfl Tryz.ntmps26 Tryz.results26 rfl rfl ?_
 have hO := A8.nil H
 unfold eA at hk
 refine sr (pA (.tl 0 []) (pg (sr ?_)))
 refine pM (.lit _ _ _) ?_
 refine BC ZM (bk hk fun m1 hm1 hk => ?_)
 refine jY hO hm1 (⟨0, ByteArray.empty, []⟩ : AO) Gq BL iE J7 (fun G => (show Ar.tr G (⟨0, ByteArray.empty, []⟩ : AO) [iv 0, .str ByteArray.empty, (.tl 0 [])] [] from ⟨[_], _, [], [], rfl, rfl, ⟨rfl, rfl⟩, ⟨[_], _, [], [], rfl, rfl, ⟨rfl, rfl⟩, .inl ⟨rfl, rfl, rfl⟩⟩⟩)) (fun b2 G hO => ?_)
 refine pA (.sl b2 0 m1) (pg (AX (sr ?_)))
 refine pA (.int _ _) (pg (CE ?_))
 refine AJ (F := Mr aA0) (fun s S' => ∃ F5 J G, A8 H G [Ck [] F5 s.1 [.sl b2 0 m1]] ∧ S' = ⟨Aq [(0, A7 l1 m2 aA0),(3, (.sl b2 0 m1)),(4, iv s.2)] J, G⟩) hk ⟨[b2], _, _, hO, sh⟩ ?_
 rintro ⟨x4, x6⟩ _ y1 ⟨F5, J, G, hO, rfl⟩ hk hx1
 refine AX (sr (pM (.int _ _) ?_))
 refine pM (.lit _ _ _) ?_
 refine BC ZM ?_
 refine AR (pg (B1 hk ?_ ?_)) <;> intro hk
 ·refine B7 (gn (AX (CE (Da (pM (.sl b2 0 m1) ?_)))))
  refine pM (.int _ _) ?_
  refine pM (.lit _ _ _) ?_
  refine pM (.int _ _) (bk hk fun c7 hc7 hk => ?_)
  refine pX hc7 iI VR ?_
  refine DG (.agg [_, _, _]) (Fh (lm := m2) (off := 0) hc7 iC VR) (bk hk fun v8 hv8 hk => ?_)
  refine IW hO (fun _ => YP hv8) (fun u9 F9 G hO => bk hk fun c10 hc10 hk => ?_)
  refine S6 hO 1 hc10 Gq BL (fun b11 hb11 => ?_)
  refine k7 hO 0 hb11 hc10 BL rfl (fun G hO => pE (bn (gn (Da ?_))))
  refine pM (.int _ _) ?_
  refine AR ?_
  refine pA (.int _ _) (pg ?_)
  cases hk; exact ⟨_, rfl, (F5 ++ F9), _, _, hO, sh⟩
 refine Eo (ge (ge (be (gn (have hk := lx hx1 hk; sr (pM (.sl b2 0 m1) ?_))))))
 refine pA (.sl b2 0 m1) (pg (Ak ?_))
 replace hk := an hk; subst hk; exact NL hO (GQ 0) (Cp (.sl b2 0 m1) Bh)
def f7 (aA0 : Az) : Option Az :=
 ((e9 aA0.A3).bind fun v4 => ((eA aA0.A1).bind fun v7 => some ({ A3 := v4, A1 := v7 } : Az)))
theorem Pv (hk : f7 aA0 = some r) (hlk : 0 < lk.length := by simp) : ∃ v H1, Ai ah hh 7 [.agg [A7 l1 0 aA0.A3, A7 l2 m3 aA0.A1]] H lk = some (v, H1) ∧ HM H r v H1 := by
 refine BA Tryz.func7 rfl Tryz.ntmps7 Tryz.results7 rfl rfl ?_
 have hO := A8.nil H
 unfold f7 at hk
 refine sr (Ax (cs := [_, _]) hO Rt (fun b1 G hO => Bd hO B2 bX (fun b2 G hO => pg (sr (Bd hO B2 bX (fun b3 G hO => pg (sr ?_)))))))
 refine Ao X8 hO 2 (.lit _ _ _) hJ (bk hk fun v4 hv4 hk => ?_)
 refine Zd hO (fun _ => Xw hv4) (fun u5 F5 G hO => ?_)
 refine pF C0 ?_
 have hc6 := DP hO (j := 0) rfl
 refine CM (xs := [_]) hO 1 kQ rfl (fun G hO => ?_) (h3 := hc6.1) (h6 := EP hc6.2)
 refine pg (sr (Ao X9 hO 3 (.lit _ _ _) hQ (bk hk fun v7 hv7 hk => ?_)))
 refine Zd hO (fun _ => Xx hv7) (fun u8 F8 G hO => ?_)
 refine pF Cv ?_
 have hc9 := DP hO (j := 0) rfl
 refine CM (xs := [_]) hO 2 kR rfl (fun G hO => ?_) (h3 := hc9.1) (h6 := EP hc9.2)
 refine pg (sr (Bj hO 2 [_, _] CL B2 ?_))
 have hc10 := DP hO (j := 1) rfl
 have hc11 := DP hO (j := 0) rfl
 refine CM (xs := [_, _]) hO 3 B2 rfl (fun G hO => ?_) (h6 := (AE hc10.2 (AE hc11.2 DM)))
 refine pg (Ak ?_)
 replace hk := an hk; subst hk; exact Ez hO (cK (Ad (c1 := [_]) (GQ 1) (GQ 0))) (Cb hO 3 [_, _] CL B2 Bh)
def R9 (aA0 : List Int) : ((List Int) × Int) → Option (((List Int) × Int) ⊕ (List Int)) := fun s =>
 (bif decide (s.2 < (aA0.length : Int)) then ((Aa aA0 s.2).bind fun c5 => ((Aa s.1 s.2).bind fun c6 => some (.inl (s.1.set s.2.toNat c5, AV (s.2 + 1))))) else ((some s.1).map Sum.inr))
def f8 (aA0 : List Int) : Option (List Int) :=
 ((It 8 (aA0.length : Int)).bind fun m1 => (AP (R9 aA0) (ch m1 (0 : Int), (0:Int))))
theorem Q0 (hk : f8 aA0 = some r) (hlk : 0 < lk.length := by simp) : ∃ v H1, Ai ah hh 8 [A7 l1 0 aA0] H lk = some (v, H1) ∧ Jf H r v H1 := by
 refine BA Tryz.func8 rfl Tryz.ntmps8 Tryz.results8 rfl rfl ?_
 have hO := A8.nil H
 unfold f8 at hk
 refine sr (pA (.tl 0 []) (pg (sr ?_)))
 refine pM (.lit _ _ _) ?_
 refine BC OJ (bk hk fun m1 hm1 hk => ?_)
 refine iZ hO hm1 (0 : Int) HV Ey lN dF (fun b2 G hO => ?_)
 refine pA (.sl _ _ _) (pg (AX (sr ?_)))
 refine pA (.int _ _) (pg (CE ?_))
 refine AJ (F := R9 aA0) (fun s S' => ∃ J G, s.1.length = m1 ∧ A8 H G [.B6 b2 (.cells 1 (A9 0 s.1))] ∧ S' = ⟨Aq [(0, A7 l1 0 aA0),(3, .sl b2 0 m1),(4, iv s.2)] J, G⟩) hk ⟨_, _, gj, hO, sh⟩ ?_
 rintro ⟨x3, x4⟩ _ y1 ⟨J, G, hl3, hO, rfl⟩ hk hx1
 refine AX (sr (pM (.int _ _) ?_))
 refine pM (.lit _ _ _) ?_
 refine BC OJ ?_
 refine AR (pg (B1 hk ?_ ?_)) <;> intro hk
 ·refine B7 (gn (AX (CE (Da (pM (.sl _ _ _) ?_)))))
  refine pM (.int _ _) ?_
  refine pM (.lit _ _ _) ?_
  refine pM (.int _ _) (bk hk fun c5 hc5 hk => ?_)
  refine pX hc5 HV Ey ?_
  refine DG (.int _ _) (IU (lm := 0) (off := 0) hc5 B5) (bk hk fun c6 hc6 hk => ?_)
  refine j7 hl3 hc6 HV Ey ?_
  refine j0 hO 0 hc6 Ey rfl c5 (.int _ _) (fun G hO => pE (bn (gn (Da ?_))))
  refine pM (.int _ _) ?_
  refine AR ?_
  refine pA (.int _ _) (pg ?_)
  cases hk; exact ⟨_, rfl, _, _, (List.length_set.trans hl3), hO, sh⟩
 refine Eo (ge (ge (be (gn (have hk := lx hx1 hk; sr (pM (.sl _ _ _) ?_))))))
 refine pA (.sl _ _ _) (pg (Ak ?_))
 replace hk := an hk; subst hk; exact NL hO (MR hl3 hlk 0) (Cp (.sl _ _ _) Bh)
def eB (aA0 : CG) : Option CG :=
 some aA0
theorem Xy (hk : eB aA0 = some r) (hlk : 0 < lk.length := by simp) : Ai ah hh 27 [.agg [iv aA0.A0, iv aA0.At, iv aA0.Way]] H lk = some (.agg [iv r.A0, iv r.At, iv r.Way], H) := by
 refine AA Tryz.func27 rfl Tryz.ntmps27 Tryz.results27 rfl rfl fun hO => ?_
 unfold eB at hk
 refine sr (Ax (cs := [_, _, _]) hO iM (fun b1 G hO => Bd hO EC TJ (fun b2 G hO => pg (sr (Bd hO EC TJ (fun b3 G hO => pg (sr ?_)))))))
 refine Ao bY hO 2 (.int _ _) B5 ?_
 refine pF DT ?_
 refine CM (xs := [_]) hO 0 Ey rfl (fun G hO => pg (sr ?_))
 refine Ao bZ hO 2 (.int _ _) B5 ?_
 refine pF Ej ?_
 refine CM (xs := [_]) hO 0 Ey rfl (fun G hO => pg (sr ?_))
 refine Ao cA hO 2 (.int _ _) B5 ?_
 refine pF DU ?_
 refine CM (xs := [_]) hO 0 Ey rfl (fun G hO => pg (sr ?_))
 refine Bj hO 0 [_, _, _] J8 EC ?_
 refine CM (xs := [_, _, _]) hO 1 EC rfl (fun G hO => pg (Ak ?_))
 replace hk := an hk; subst hk; exact CP hO (BU (n := 2) (Ac (AD _ _) (Ac (AD _ _) (Ac (AD _ _) (C8))))) (Cb hO 1 [_, _, _] J8 EC Bh)
def eY (aA0 : AW) : Option AW :=
 some aA0
theorem YQ (hk : eY aA0 = some r) (hlk : 0 < lk.length := by simp) : Ai ah hh 60 [.agg [iv aA0.A0, iv aA0.Way]] H lk = some (.agg [iv r.A0, iv r.Way], H) := by
 refine AA Tryz.func60 rfl Tryz.ntmps60 Tryz.results60 rfl rfl fun hO => ?_
 unfold eY at hk
 refine sr (Ax (cs := [_, _]) hO XF (fun b1 G hO => Bd hO BY G4 (fun b2 G hO => pg (sr (Bd hO BY G4 (fun b3 G hO => pg (sr ?_)))))))
 refine Ao ZC hO 2 (.int _ _) B5 ?_
 refine pF EG ?_
 refine CM (xs := [_]) hO 0 Ey rfl (fun G hO => pg (sr ?_))
 refine Ao ZD hO 2 (.int _ _) B5 ?_
 refine pF Ek ?_
 refine CM (xs := [_]) hO 0 Ey rfl (fun G hO => pg (sr ?_))
 refine Bj hO 0 [_, _] Gk BY ?_
 refine CM (xs := [_, _]) hO 1 BY rfl (fun G hO => pg (Ak ?_))
 replace hk := an hk; subst hk; exact CP hO (BU (n := 2) (Ac (AD _ _) (Ac (AD _ _) (C8)))) (Cb hO 1 [_, _] Gk BY Bh)
def Ms (aA0 : List AW) : ((List AW) × Int) → Option (((List AW) × Int) ⊕ (List AW)) := fun s =>
 (bif decide (s.2 < (aA0.length : Int)) then ((Aa aA0 s.2).bind fun c5 => ((eY c5).bind fun v6 => ((Aa s.1 s.2).bind fun c7 => some (.inl (s.1.set s.2.toNat v6, AV (s.2 + 1)))))) else ((some s.1).map Sum.inr))
def eC (aA0 : List AW) : Option (List AW) :=
 ((It 16 (aA0.length : Int)).bind fun m1 => (AP (Ms aA0) (ch m1 (⟨0, 0⟩ : AW), (0:Int))))
theorem Xz (hk : eC aA0 = some r) (hlk : 0 < lk.length := by simp) : ∃ v H1, Ai ah hh 28 [A7 l1 0 aA0] H lk = some (v, H1) ∧ Jf H r v H1 := by
 refine BA Tryz.func28 rfl Tryz.ntmps28 Tryz.results28 rfl rfl ?_
 have hO := A8.nil H
 unfold eC at hk
 refine sr (pA (.tl 0 []) (pg (sr ?_)))
 refine pM (.lit _ _ _) ?_
 refine BC cI (bk hk fun m1 hm1 hk => ?_)
 refine iZ hO hm1 (⟨0, 0⟩ : AW) GB BY X7 G4 (fun b2 G hO => ?_)
 refine pA (.sl _ _ _) (pg (AX (sr ?_)))
 refine pA (.int _ _) (pg (CE ?_))
 refine AJ (F := Ms aA0) (fun s S' => ∃ J G, s.1.length = m1 ∧ A8 H G [.B6 b2 (.cells 2 (A9 0 s.1))] ∧ S' = ⟨Aq [(0, A7 l1 0 aA0),(3, .sl b2 0 m1),(4, iv s.2)] J, G⟩) hk ⟨_, _, gj, hO, sh⟩ ?_
 rintro ⟨x3, x4⟩ _ y1 ⟨J, G, hl3, hO, rfl⟩ hk hx1
 refine AX (sr (pM (.int _ _) ?_))
 refine pM (.lit _ _ _) ?_
 refine BC cI ?_
 refine AR (pg (B1 hk ?_ ?_)) <;> intro hk
 ·refine B7 (gn (AX (CE (Da (pM (.sl _ _ _) ?_)))))
  refine pM (.int _ _) ?_
  refine pM (.lit _ _ _) ?_
  refine pM (.int _ _) (bk hk fun c5 hc5 hk => ?_)
  refine pX hc5 kN XF ?_
  refine DG (.agg [_, _]) (Fh (lm := 0) (off := 0) hc5 gZ XF) (bk hk fun v6 hv6 hk => ?_)
  refine AL (fun _ => YQ hv6) (bk hk fun c7 hc7 hk => ?_)
  refine j7 hl3 hc7 GB BY ?_
  refine j0 hO 0 hc7 BY rfl v6 (.agg [_, _]) (fun G hO => pE (bn (gn (Da ?_))))
  refine pM (.int _ _) ?_
  refine AR ?_
  refine pA (.int _ _) (pg ?_)
  cases hk; exact ⟨_, rfl, _, _, (List.length_set.trans hl3), hO, sh⟩
 refine Eo (ge (ge (be (gn (have hk := lx hx1 hk; sr (pM (.sl _ _ _) ?_))))))
 refine pA (.sl _ _ _) (pg (Ak ?_))
 replace hk := an hk; subst hk; exact NL hO (MR hl3 hlk 0) (Cp (.sl _ _ _) Bh)
def f9 (aA0 : AB) : Option AB :=
 ((eB aA0.A5).bind fun v4 => ((eC aA0.AF).bind fun v5 => some ({ A5 := v4, AI := aA0.AI, AF := v5 } : AB)))
theorem Q7 (hk : f9 aA0 = some r) (hlk : 0 < lk.length := by simp) : ∃ v H1, Ai ah hh 9 [.agg [iv aA0.A5.A0, iv aA0.A5.At, iv aA0.A5.Way, iv aA0.AI, A7 l1 0 aA0.AF]] H lk = some (v, H1) ∧ HM H r v H1 := by
 refine BA Tryz.func9 rfl Tryz.ntmps9 Tryz.results9 rfl rfl ?_
 have hO := A8.nil H
 unfold f9 at hk
 refine sr (Ax (cs := [_, _, _, _, _]) hO Ru (fun b1 G hO => Bd hO Bt Qf (fun b2 G hO => pg (sr (Bd hO Bt Qf (fun b3 G hO => pg (sr ?_)))))))
 refine pF cB ?_
 refine Bj hO 2 [_, _, _] kK iM (bk hk fun v4 hv4 hk => ?_)
 refine AL (fun _ => Xy hv4) ?_
 refine pF CR ?_
 refine CM (xs := [_, _, _]) hO 0 EC rfl (fun G hO => pg (sr ?_))
 refine Ao cC hO 2 (.int _ _) B5 ?_
 refine pF GC ?_
 refine CM (xs := [_]) hO 0 Ey rfl (fun G hO => pg (sr ?_))
 refine Ao XA hO 2 (.lit _ _ _) hZ (bk hk fun v5 hv5 hk => ?_)
 refine Zd hO (fun _ => Xz hv5) (fun u6 F6 G hO => ?_)
 refine pF DD ?_
 have hc7 := DP hO (j := 0) rfl
 refine CM (xs := [_]) hO 1 XH rfl (fun G hO => ?_) (h3 := hc7.1) (h6 := EP hc7.2)
 refine pg (sr (Bj hO 1 [_, _, _, _, _] Eh Bt ?_))
 have hc8 := DP hO (j := 0) rfl
 refine CM (xs := [_, _, _, _, _]) hO 2 Bt rfl (fun G hO => ?_) (h6 := (AE rfl (AE rfl (AE rfl (AE rfl (AE hc8.2 DM))))))
 refine pg (Ak ?_)
 replace hk := an hk; subst hk; exact Ez hO (ET (Ad (c1 := [_, _, _]) (Jd (α := CG) v4) (Ad (c1 := [_]) (Bo aA0.AI) (GQ 0)))) (Cb hO 2 [_, _, _, _, _] Eh Bt Bh)
def ME (aS0 : ByteArray) : Int → Option (Int ⊕ Bool) := fun s =>
 (bif decide (s < (aS0.size : Int)) then ((G6 aS0 s).bind fun c2 => (bif !(((decide (c2 ≥ 97) && decide (c2 ≤ 122)) || (decide (c2 ≥ 48) && decide (c2 ≤ 57))) || (c2 == 95)) then ((some false).map Sum.inr) else some (.inl (AV (s + 1))))) else ((some (decide ((aS0.size : Int) ≥ 1) && decide ((aS0.size : Int) ≤ 20))).map Sum.inr))
def Ui (aS0 : ByteArray) : Option Bool :=
 (AP (ME aS0) ((0:Int)))
theorem R7 (hk : Ui aS0 = some r) (hlk : 0 < lk.length := by simp) : Ai ah hh 101 [.str aS0] H lk = some (.bool r, H) := by
 refine AA Tryz.func101 rfl Tryz.ntmps101 Tryz.results101 rfl rfl fun hO => ?_
 unfold Ui at hk
 refine sr (pA (.bool _) (pg (AX (sr ?_))))
 refine pA (.int _ _) (pg (CE ?_))
 refine AJ (F := ME aS0) (fun s S' => ∃ J G, A8 H G [] ∧ S' = ⟨Aq [(0, .str aS0),(3, iv s)] J, G⟩) hk ⟨_, _, hO, sh⟩ ?_
 rintro x1 _ y1 ⟨J, G, hO, rfl⟩ hk hx1
 refine AX (sr (pM (.int _ _) ?_))
 refine pM (.str _) ?_
 refine BC Zj ?_
 refine AR (pg (B1 hk ?_ ?_)) <;> intro hk
 ·refine B7 (gn (AX (CE (sr (pM (.str _) ?_)))))
  refine pM (.int _ _) (bk hk fun c2 hc2 hk => ?_)
  refine kY Tryz.underlying9 hc2 ?_
  refine pA (.int _ _) (pg (sr ?_))
  refine pM (.int _ _) ?_
  refine AR ?_
  refine pM (.bool _) ?_
  refine AQ (l1 := [_, _, _]) (fun S' => ∃ J, S' = ⟨Aq [(0, .str aS0),(3, iv x1),(4, .int .u8 c2),(19, .bool (decide (c2 ≥ 97) && decide (c2 ≤ 122)))] J, G⟩) ?_ ?_
  ·refine bc (b := decide (c2 ≥ 97)) ?_ ?_ <;> intro hg
   ·refine Ae hg (pM (.int _ _) (Ae hg ?_))
    refine AR ?_
    refine EJ hg (.bool _) ?_
    exact pE ⟨_, St.Aq _ ⟨rfl, rfl, rfl, by rw [hg]; rfl, trivial⟩⟩
   refine Bu hg (Bu hg (EI hg (.bool _) ?_))
   exact pE ⟨_, St.Aq _ ⟨rfl, rfl, rfl, by rw [hg]; rfl, trivial⟩⟩
  rintro _ ⟨J, rfl⟩
  refine pM (.bool _) ?_
  refine AQ (l1 := [_, _, _, _, _, _, _]) (fun S' => ∃ J, S' = ⟨Aq [(0, .str aS0),(3, iv x1),(4, .int .u8 c2),(27, .bool ((decide (c2 ≥ 97) && decide (c2 ≤ 122)) || (decide (c2 ≥ 48) && decide (c2 ≤ 57))))] J, G⟩) ?_ ?_
  ·refine bc (b := (decide (c2 ≥ 97) && decide (c2 ≤ 122))) ?_ ?_ <;> intro hg
   ·refine Bu hg (Bu hg (Bu hg (K4 (K4 (Bu hg (EJ hg (.bool _) ?_))))))
    exact pE ⟨_, St.Aq _ ⟨rfl, rfl, rfl, by rw [hg]; rfl, trivial⟩⟩
   refine Ae hg (pM (.int _ _) (Ae hg ?_))
   refine AR (Ae hg ?_)
   refine pM (.bool _) ?_
   refine AQ (l1 := [_, _, _]) (fun S' => ∃ J, S' = ⟨Aq [(0, .str aS0),(3, iv x1),(4, .int .u8 c2),(20, .bool (decide (c2 ≥ 97) && decide (c2 ≤ 122))),(26, .bool (decide (c2 ≥ 48) && decide (c2 ≤ 57)))] J, G⟩) ?_ ?_
   ·refine bc (b := decide (c2 ≥ 48)) (fun hg2 => ?_) (fun hg2 => ?_)
    ·refine Ae hg2 (pM (.int _ _) (Ae hg2 ?_))
     refine AR (Ae hg ?_)
     refine EJ hg2 (.bool _) ?_
     exact pE ⟨_, St.Aq _ ⟨rfl, rfl, rfl, rfl, by rw [hg2]; rfl, trivial⟩⟩
    refine Bu hg2 (Bu hg2 (Ae hg (EI hg2 (.bool _) ?_)))
    exact pE ⟨_, St.Aq _ ⟨rfl, rfl, rfl, rfl, by rw [hg2]; rfl, trivial⟩⟩
   rintro _ ⟨J, rfl⟩
   refine EI hg (.bool _) ?_
   exact pE ⟨_, St.Aq _ ⟨rfl, rfl, rfl, by rw [hg]; rfl, trivial⟩⟩
  rintro _ ⟨J, rfl⟩
  refine pM (.bool _) ?_
  refine AQ (l1 := [_, _, _]) (fun S' => ∃ J, S' = ⟨Aq [(0, .str aS0),(3, iv x1),(31, .bool (((decide (c2 ≥ 97) && decide (c2 ≤ 122)) || (decide (c2 ≥ 48) && decide (c2 ≤ 57))) || (c2 == 95)))] J, G⟩) ?_ ?_
  ·refine bc (b := ((decide (c2 ≥ 97) && decide (c2 ≤ 122)) || (decide (c2 ≥ 48) && decide (c2 ≤ 57)))) ?_ ?_ <;> intro hg
   ·refine Bu hg (Bu hg (EJ hg (.bool _) ?_))
    exact pE ⟨_, St.Aq _ ⟨rfl, rfl, by rw [hg]; rfl, trivial⟩⟩
   refine Ae hg (pM (.int _ _) (Ae hg ?_))
   refine AR ?_
   refine EI hg (.bool _) ?_
   exact pE ⟨_, St.Aq _ ⟨rfl, rfl, by rw [hg]; rfl, trivial⟩⟩
  rintro _ ⟨J, rfl⟩
  refine pU (pg (B1 hk ?_ ?_)) <;> intro hk
  ·refine sr (pA (.bool _) (pg (Ak (br (gr (gr (br (gr (have hk := lx hx1 hk; ?_)))))))))
   cases hk; exact AU hO
  refine B7 (bn (gn (Da (pM (.int _ _) ?_))))
  refine AR ?_
  refine pA (.int _ _) (pg ?_)
  cases hk; exact ⟨_, rfl, _, _, hO, sh⟩
 refine Eo (ge (ge (be (gn (have hk := lx hx1 hk; sr (pM (.str _) ?_))))))
 refine BC Zj ?_
 refine AR ?_
 refine pM (.bool _) ?_
 refine AQ (l1 := [_, _, _, _]) (fun S' => ∃ J, S' = ⟨Aq [(40, .bool (decide ((aS0.size : Int) ≥ 1) && decide ((aS0.size : Int) ≤ 20)))] J, G⟩) ?_ ?_
 ·refine bc (b := decide ((aS0.size : Int) ≥ 1)) ?_ ?_ <;> intro hg
  ·refine Ae hg (pM (.str _) (Ae hg ?_))
   refine BC Zj (Ae hg ?_)
   refine AR ?_
   refine EJ hg (.bool _) ?_
   exact pE ⟨_, St.Aq _ ⟨by rw [hg]; rfl, trivial⟩⟩
  refine Bu hg (Bu hg (Bu hg (EI hg (.bool _) ?_)))
  exact pE ⟨_, St.Aq _ ⟨by rw [hg]; rfl, trivial⟩⟩
 rintro _ ⟨J, rfl⟩
 refine pA (.bool _) (pg (Ak ?_))
 cases hk; exact AU hO
def Pj (aX0 : Int) (aA1 : Int) (aB2 : Int) : Option Bool :=
 some (decide (aX0 ≥ aA1) && decide (aX0 ≤ aB2))
theorem He (hk : Pj aX0 aA1 aB2 = some r) (hlk : 0 < lk.length := by simp) : Ai ah hh 102 [iv aX0, iv aA1, iv aB2] H lk = some (.bool r, H) := by
 refine AA Tryz.func102 rfl Tryz.ntmps102 Tryz.results102 rfl rfl fun hO => ?_
 unfold Pj at hk
 refine sr (pA (.bool _) (pg (sr ?_)))
 refine pM (.int _ _) ?_
 refine pM (.int _ _) ?_
 refine AR ?_
 refine pM (.bool _) ?_
 refine AQ (l1 := [_, _, _, _]) (fun S' => ∃ J, S' = ⟨Aq [(14, .bool (decide (aX0 ≥ aA1) && decide (aX0 ≤ aB2)))] J, H⟩) ?_ ?_
 ·refine bc (b := decide (aX0 ≥ aA1)) ?_ ?_ <;> intro hg
  ·refine Ae hg (pM (.int _ _) (Ae hg ?_))
   refine pM (.int _ _) (Ae hg ?_)
   refine AR ?_
   refine EJ hg (.bool _) ?_
   exact pE ⟨_, St.Aq _ ⟨by rw [hg]; rfl, trivial⟩⟩
  refine Bu hg (Bu hg (Bu hg (EI hg (.bool _) ?_)))
  exact pE ⟨_, St.Aq _ ⟨by rw [hg]; rfl, trivial⟩⟩
 rintro _ ⟨J, rfl⟩
 refine pA (.bool _) (pg (Ak ?_))
 cases hk; exact AU hO
def W0 (aN0 : Az) (aE1 : Ay) : Option Bool :=
 ((Pj aE1.A0 (0:Int) (AV ((aN0.A3.length : Int) - 1))).bind fun v3 => ((bif v3 then ((Pj aE1.B9 (0:Int) (1:Int)).bind fun v5 => some v5) else some false).bind fun t4 => some t4))
theorem W1 (hk : W0 aN0 aE1 = some r) (hlk : 0 < lk.length := by simp) : Ai ah hh 105 [.agg [A7 l1 0 aN0.A3, A7 l2 m3 aN0.A1], .agg [iv aE1.A0, iv aE1.B9]] H lk = some (.bool r, H) := by
 refine AA Tryz.func105 rfl Tryz.ntmps105 Tryz.results105 rfl rfl fun hO => ?_
 unfold W0 at hk
 refine sr (Ax (cs := [_, _]) hO B2 (fun b1 G hO => ?_))
 refine Ax (cs := [_, _]) hO AS (fun b2 G hO => ?_)
 refine pA (.bool _) (pg (sr ?_))
 refine Ao Fi hO 0 (.int _ _) B5 ?_
 refine Ao C0 hO 1 (.lit _ _ _) Ei ?_
 refine BC IZ ?_
 refine AR (bk hk fun v3 hv3 hk => ?_)
 refine AL (fun _ => He hv3) ?_
 refine pM (.bool _) (bk hk fun t4 ht hk => ?_)
 refine AQ (l1 := [_, _, _, _]) (fun S' => ∃ J, S' = ⟨Aq [(16, .bool t4)] J, G⟩) ?_ ?_
 ·refine bc (b := v3) ?_ ?_ <;> intro hg
  ·replace hk := ct hg ht
   refine Ae hg (pF IN (Ae hg ?_))
   refine GG hO 0 (.int _ _) B5 (Ae hg (bk hk fun v5 hv5 hk => ?_))
   refine AL (fun _ => He hv5) ?_
   refine EJ hg (.bool _) ?_
   cases hk; exact pE ⟨_, sh⟩
  replace hk := cf hg ht
  refine Bu hg (Bu hg (Bu hg (EI hg (.bool _) ?_)))
  cases hk; exact pE ⟨_, sh⟩
 rintro _ ⟨J, rfl⟩
 refine pA (.bool _) (pg (Ak ?_))
 cases hk; exact AU hO
def KD (aN0 : Az) (aI1 : Int) (c2 : AO) : Int → Option (Int ⊕ Int) := fun s =>
 (bif decide (s < aI1) then ((Aa aN0.A1 s).bind fun c11 => (bif (c11.Name.toList == c2.Name.toList) then ((some (4:Int)).map Sum.inr) else some (.inl (AV (s + 1))))) else ((some (0:Int)).map Sum.inr))
def KC (aN0 : Az) (aI1 : Int) (c2 : AO) : Int → Option (Int ⊕ Int) := fun s =>
 (bif decide (s < (c2.Ends.length : Int)) then ((Aa c2.Ends s).bind fun c6 => ((W0 aN0 c6).bind fun v8 => (bif !v8 then ((some (3:Int)).map Sum.inr) else some (.inl (AV (s + 1)))))) else ((bif decide (c2.Kind < 3) then (bif !(c2.Name.toList == ({ data := #[] } : ByteArray).toList) then some (4:Int) else some (0:Int)) else ((Ui c2.Name).bind fun v9 => (bif !v9 then some (4:Int) else (AP (KD aN0 aI1 c2) ((0:Int)))))).map Sum.inr))
def Vw (aN0 : Az) (aI1 : Int) : Option Int :=
 ((Aa aN0.A1 aI1).bind fun c2 => ((Pj c2.Kind (1:Int) (4:Int)).bind fun v4 => (bif (!v4 || ((c2.Ends.length : Int) != c2.Kind)) then some (3:Int) else (AP (KC aN0 aI1 c2) ((0:Int))))))
theorem Vx (hk : Vw aN0 aI1 = some r) (hlk : 0 < lk.length := by simp) : Ai ah hh 103 [.agg [A7 l1 0 aN0.A3, A7 l2 m3 aN0.A1], iv aI1] H lk = some (iv r, H) := by
 refine AA Tryz.func103 rfl Tryz.ntmps103 Tryz.results103 rfl rfl fun hO => ?_
 unfold Vw at hk
 refine sr (Ax (cs := [_, _]) hO B2 (fun b1 G hO => ?_))
 refine pA (.int _ _) (pg (sr ?_))
 refine Ao Cv hO 0 (.lit _ _ _) Gj ?_
 refine pM (.int _ _) (bk hk fun c2 hc2 hk => ?_)
 refine pX hc2 Gq BL ?_
 refine DG (.agg [_, _, _]) (Fh (lm := m3) (off := 0) hc2 HI BL) (Bd hO BL J7 (fun b3 G hO => ?_))
 refine CM (xs := [_, _, _]) hO 0 BL rfl (fun G hO => pg (AX (sr ?_)))
 refine Ao DF hO 0 (.int _ _) B5 (bk hk fun v4 hv4 hk => ?_)
 refine AL (fun _ => He hv4) ?_
 refine pU ?_
 refine pM (.bool _) ?_
 refine AQ (l1 := [_, _, _, _, _, _, _]) (fun S' => ∃ J, S' = ⟨Aq [(1, iv aI1),(2, .ptr b1 0),(5, .ptr b3 0),(25, .bool (!v4 || ((c2.Ends.length : Int) != c2.Kind)))] J, G⟩) ?_ ?_
 ·refine bc (b := !v4) ?_ ?_ <;> intro hg
  ·repeat refine Bu hg ?_
   refine EJ hg (.bool _) ?_
   exact pE ⟨_, St.Aq _ ⟨rfl, rfl, rfl, by rw [hg]; rfl, trivial⟩⟩
  refine Ae hg (pF Cu (Ae hg ?_))
  refine GG hO 0 (.lit _ _ _) FQ (Ae hg ?_)
  refine BC HK (Ae hg ?_)
  refine pF DF (Ae hg ?_)
  refine GG hO 0 (.int _ _) B5 (Ae hg ?_)
  refine AR ?_
  refine EI hg (.bool _) ?_
  exact pE ⟨_, St.Aq _ ⟨rfl, rfl, rfl, by rw [hg]; rfl, trivial⟩⟩
 rintro _ ⟨J, rfl⟩
 refine pg (B1 hk ?_ ?_) <;> intro hk
 ·refine sr (pA (.int _ _) (pg (Ak (gr ?_))))
  cases hk; exact AU hO
 refine B7 (gn (AX (sr (Ao Cu hO 0 (.lit _ _ _) FQ ?_))))
 refine BC HK ?_
 refine pM (.int _ _) (pg (CE ?_))
 refine AJ (F := KC aN0 aI1 c2) (fun s S' => ∃ J G, A8 H G [.B6 b3 (.cells 3 [iv c2.Kind, .str c2.Name, A7 m3 0 c2.Ends]), .B6 b1 (.cells 2 [A7 l1 0 aN0.A3, A7 l2 m3 aN0.A1])] ∧ S' = ⟨Aq [(1, iv aI1),(2, .ptr b1 0),(5, .ptr b3 0),(27, A7 m3 0 c2.Ends),(28, iv (c2.Ends.length : Int)),(29, iv s)] J, G⟩) hk ⟨_, _, hO, sh⟩ ?_
 rintro x5 _ y1 ⟨J, G, hO, rfl⟩ hk hx1
 refine sr (AR (pg (AX (B1 hk ?_ ?_)))) <;> intro hk
 ·refine B7 (gn (AX (CE (sr (bk hk fun c6 hc6 hk => pX hc6 CT AS ?_)))))
  refine DG (.agg [_, _]) (Fh (lm := 0) (off := 0) hc6 Bz AS) (Bd hO AS Di (fun b7 G hO => ?_))
  refine CM (xs := [_, _]) hO 0 AS rfl (fun G hO => pg (sr ?_))
  refine Bj hO 2 [_, _] CL B2 ?_
  refine Bj hO 0 [_, _] Bz AS (bk hk fun v8 hv8 hk => ?_)
  refine AL (fun _ => W1 hv8) ?_
  refine pU (pg (B1 hk ?_ ?_)) <;> intro hk
  ·refine sr (pA (.int _ _) (pg (Ak (br (gr (gr (br (gr (have hk := lx hx1 hk; ?_)))))))))
   cases hk; exact AU hO
  refine B7 (bn (gn (Da (AR ?_))))
  refine pM (.int _ _) (pg ?_)
  cases hk; exact ⟨_, rfl, _, _, (pk hO [1, 2]), sh⟩
 refine Eo (ge (ge (be (gn (have hk := lx hx1 hk; AX (sr (Ao DF hO 0 (.int _ _) B5 ?_)))))))
 refine AR (pg (B1 hk ?_ ?_)) <;> intro hk
 ·refine AX (sr (Ao EY hO 0 (.str _) OO ?_))
  refine pB (a := .str _) (b := .str _) (pg (B1 hk ?_ ?_)) <;> intro hk
  ·refine sr (pA (.int _ _) (pg (Ak (gr (gr ?_)))))
   cases hk; exact AU hO
  refine B7 (gn (sr (pA (.int _ _) (pg (Ak (gr ?_))))))
  cases hk; exact AU hO
 refine B7 (gn (AX (sr (Ao EY hO 0 (.str _) OO (bk hk fun v9 hv9 hk => ?_)))))
 refine AL (fun _ => R7 hv9) ?_
 refine pU (pg (B1 hk ?_ ?_)) <;> intro hk
 ·refine sr (pA (.int _ _) (pg (Ak (gr ?_))))
  cases hk; exact AU hO
 refine B7 (gn (AX (sr (pA (.int _ _) (pg (CE ?_))))))
 refine AJ (F := KD aN0 aI1 c2) (fun s S' => ∃ J G, A8 H G [.B6 b3 (.cells 3 [iv c2.Kind, .str c2.Name, A7 m3 0 c2.Ends]), .B6 b1 (.cells 2 [A7 l1 0 aN0.A3, A7 l2 m3 aN0.A1])] ∧ S' = ⟨Aq [(1, iv aI1),(2, .ptr b1 0),(5, .ptr b3 0),(8, iv s)] J, G⟩) hk ⟨_, _, hO, sh⟩ ?_
 rintro x10 _ y1 ⟨J, G, hO, rfl⟩ hk hx1
 refine AX (sr (pM (.int _ _) ?_))
 refine pM (.int _ _) ?_
 refine AR (pg (B1 hk ?_ ?_)) <;> intro hk
 ·refine B7 (gn (AX (CE (AX (Hz [1,3,5,7,9,11,13,15,16] [_,_,_,_,_,_,_,_,_] ?_)))))
  refine Ao Cv hO 1 (.lit _ _ _) Gj ?_
  refine pM (.int _ _) (bk hk fun c11 hc11 hk => ?_)
  refine pX hc11 Gq BL ?_
  refine pF EY ?_
  refine DG (.str _) (IU (lm := m3) (off := 1) hc11 OO) ?_
  refine Ao EY hO 0 (.str _) OO ?_
  refine pB (a := .str _) (b := .str _) (pg (B1 hk ?_ ?_)) <;> intro hk
  ·refine sr (pA (.int _ _) (pg (Ak (br (gr (gr (br (gr (have hk := lx hx1 hk; ?_)))))))))
   cases hk; exact AU hO
  refine B7 (bn (gn (Da (pM (.int _ _) ?_))))
  refine AR ?_
  refine pA (.int _ _) (pg ?_)
  cases hk; exact ⟨_, rfl, _, _, hO, sh⟩
 refine Eo (ge (ge (be (gn (have hk := lx hx1 hk; sr (pA (.int _ _) (pg (Ak ?_))))))))
 cases hk; exact AU hO
def MH (x8 : Int) (x9 : Int) : Option ((Int × Int) ⊕ ((Int × Int) ⊕ Int)) :=
 some (.inl (x9, AV (x8 + 1)))
def MG (aE1 : Ay) (x4 : Int) (c5 : AO) : (Int × Int) → Option ((Int × Int) ⊕ ((Int × Int) ⊕ Int)) := fun s =>
 (bif decide (s.2 < (c5.Ends.length : Int)) then ((Aa c5.Ends s.2).bind fun c10 => (bif ((c10.A0 == aE1.A0) && ((c10.B9 == aE1.B9) && true)) then (MH s.2 (AV (s.1 + 1))) else (MH s.2 s.1))) else ((some (.inl (s.1, AV (x4 + 1)))).map Sum.inr))
def MF (aN0 : Az) (aE1 : Ay) : (Int × Int) → Option ((Int × Int) ⊕ Int) := fun s =>
 (bif decide (s.2 < (aN0.A1.length : Int)) then ((Aa aN0.A1 s.2).bind fun c5 => (AP (MG aE1 s.2 c5) (s.1, (0:Int)))) else ((some s.1).map Sum.inr))
def Vy (aN0 : Az) (aE1 : Ay) : Option Int :=
 (AP (MF aN0 aE1) ((0:Int), (0:Int)))
theorem Vz (hk : Vy aN0 aE1 = some r) (hlk : 0 < lk.length := by simp) : Ai ah hh 104 [.agg [A7 l1 0 aN0.A3, A7 l2 m3 aN0.A1], .agg [iv aE1.A0, iv aE1.B9]] H lk = some (iv r, H) := by
 refine AA Tryz.func104 rfl Tryz.ntmps104 Tryz.results104 rfl rfl fun hO => ?_
 unfold Vy at hk
 refine sr (Ax (cs := [_, _]) hO B2 (fun b1 G hO => ?_))
 refine Ax (cs := [_, _]) hO AS (fun b2 G hO => ?_)
 refine pA (.int _ _) (pg (sr ?_))
 refine pA (.int _ _) (pg (AX (sr ?_)))
 refine Ao Cv hO 1 (.lit _ _ _) Gj ?_
 refine BC K2 ?_
 refine pM (.int _ _) (pg (CE ?_))
 refine AJ (F := MF aN0 aE1) (fun s S' => ∃ J G, A8 H G [.B6 b2 (.cells 2 [iv aE1.A0, iv aE1.B9])] ∧ S' = ⟨Aq [(3, .ptr b2 0),(5, iv s.1),(11, A7 l2 m3 aN0.A1),(12, iv (aN0.A1.length : Int)),(13, iv s.2)] J, G⟩) hk ⟨_, _, (pk hO [0]), sh⟩ ?_
 rintro ⟨x3, x4⟩ _ y1 ⟨J, G, hO, rfl⟩ hk hx1
 refine sr (AR (pg (AX (B1 hk ?_ ?_)))) <;> intro hk
 ·refine B7 (gn (AX (CE (sr (bk hk fun c5 hc5 hk => pX hc5 Gq BL ?_)))))
  refine DG (.agg [_, _, _]) (Fh (lm := m3) (off := 0) hc5 HI BL) (Bd hO BL J7 (fun b6 G hO => ?_))
  refine CM (xs := [_, _, _]) hO 0 BL rfl (fun G hO => pg (sr ?_))
  refine Ao Cu hO 0 (.lit _ _ _) FQ ?_
  refine BC HK ?_
  refine pM (.int _ _) (pg (CE ?_))
  refine AJ (F := MG aE1 x4 c5) (fun s S' => ∃ J G, A8 H G [.B6 b2 (.cells 2 [iv aE1.A0, iv aE1.B9])] ∧ S' = ⟨Aq [(3, .ptr b2 0),(5, iv s.1),(11, A7 l2 m3 aN0.A1),(12, iv (aN0.A1.length : Int)),(13, iv x4),(18, A7 m3 0 c5.Ends),(19, iv (c5.Ends.length : Int)),(20, iv s.2)] J, G⟩) hk ⟨_, _, (pk hO [1]), sh⟩ ?_
  rintro ⟨x7, x8⟩ _ y2 ⟨J, G, hO, rfl⟩ hk hx2
  refine sr (AR (pg (AX (B1 hk ?_ ?_)))) <;> intro hk
  ·refine B7 (gn (Fq (fun S' => ∃ x9 J G, MH x8 x9 = some y2 ∧ A8 H G [.B6 b2 (.cells 2 [iv aE1.A0, iv aE1.B9])] ∧ S' = ⟨Aq [(3, .ptr b2 0),(5, iv x9),(11, A7 l2 m3 aN0.A1),(12, iv (aN0.A1.length : Int)),(13, iv x4),(18, A7 m3 0 c5.Ends),(19, iv (c5.Ends.length : Int)),(20, iv x8)] J, G⟩) ?_ ?_))
   ·refine CE (sr (bk hk fun c10 hc10 hk => pX hc10 CT AS ?_))
    refine DG (.agg [_, _]) (Fh (lm := 0) (off := 0) hc10 Bz AS) (Bd hO AS Di (fun b11 G hO => ?_))
    refine CM (xs := [_, _]) hO 0 AS rfl (fun G hO => pg (sr ?_))
    refine Bj hO 0 [_, _] Bz AS ?_
    refine Bj hO 1 [_, _] Bz AS ?_
    refine dE TK (Qn (Qo _ _ _) (Qn (Qo _ _ _) (rfl))) (pg (B1 hk ?_ ?_)) <;> intro hk
    ·refine Da (pM (.int _ _) ?_)
     refine AR ?_
     refine pA (.int _ _) (pE (bn (gn ?_)))
     exact ⟨AV (x7 + 1), _, _, hk, (pk hO [1]), sh⟩
    exact B7 (bn (gn (⟨x7, _, _, hk, (pk hO [1]), sh⟩)))
   rintro _ ⟨x9, J, G, hk, hO, rfl⟩
   refine Da (AR ?_)
   refine pM (.int _ _) (pg ?_)
   cases hk; exact ⟨_, rfl, _, _, hO, sh⟩
  refine Eo (ge (ge (be (bn (gn (have hk := lx hx2 hk; Da (AR ?_)))))))
  refine pM (.int _ _) (pg ?_)
  cases hk; exact ⟨_, rfl, _, _, hO, sh⟩
 refine Eo (ge (ge (be (gn (have hk := lx hx1 hk; sr (pM (.int _ _) ?_))))))
 refine pA (.int _ _) (pg (Ak ?_))
 cases hk; exact AU hO
def NJ (aN0 : Az) (x3 : Int) (c4 : A0) : Int → Option (Int ⊕ (Int ⊕ Bq)) := fun s =>
 (bif decide (s < x3) then ((Aa aN0.A3 s).bind fun c14 => (bif (c14.Name.toList == c4.Name.toList) then (((some ({ Code := (2:Int), At := x3 } : Bq)).map Sum.inr).map Sum.inr) else some (.inl (AV (s + 1))))) else ((some (.inl (AV (x3 + 1)))).map Sum.inr))
def Jn (aN0 : Az) (x15 : Int) : Int → Option (Int ⊕ (Int ⊕ Bq)) := fun s =>
 (bif decide (s < (aN0.A1.length : Int)) then ((Vw aN0 s).bind fun v17 => (bif (v17 == x15) then (((some ({ Code := x15, At := s } : Bq)).map Sum.inr).map Sum.inr) else some (.inl (AV (s + 1))))) else ((some (.inl (AV (x15 + 1)))).map Sum.inr))
def Q5 (aN0 : Az) (x18 : Int) : Int → Option (Int ⊕ (Int ⊕ Bq)) := fun s =>
 (bif decide (s < 2) then ((Vy aN0 ({ A0 := x18, B9 := s } : Ay)).bind fun v20 => (bif (v20 != 1) then (((some ({ Code := (5:Int), At := x18 } : Bq)).map Sum.inr).map Sum.inr) else some (.inl (AV (s + 1))))) else ((some (.inl (AV (x18 + 1)))).map Sum.inr))
def L0 (aN0 : Az) : Int → Option (Int ⊕ Bq) := fun s =>
 (bif decide (s < (aN0.A3.length : Int)) then (AP (Q5 aN0 s) ((0:Int))) else ((some ({ Code := 0, At := 0 } : Bq)).map Sum.inr))
def NK (aN0 : Az) : Int → Option (Int ⊕ Bq) := fun s =>
 (bif decide (s ≤ 4) then (AP (Jn aN0 s) ((0:Int))) else ((AP (L0 aN0) ((0:Int))).map Sum.inr))
def NI (aN0 : Az) : Int → Option (Int ⊕ Bq) := fun s =>
 (bif decide (s < (aN0.A3.length : Int)) then ((Aa aN0.A3 s).bind fun c4 => ((Ui c4.Name).bind fun v6 => ((bif !v6 then some true else ((Pj c4.BN (1:Int) (10000000:Int)).bind fun v8 => some (!v8))).bind fun t7 => ((bif t7 then some true else ((Pj c4.Bv (1:Int) (10000:Int)).bind fun v10 => some (!v10))).bind fun t9 => ((bif t9 then some true else ((Pj c4.CX (1:Int) (1000:Int)).bind fun v12 => some (!v12))).bind fun t11 => (bif t11 then ((some ({ Code := (2:Int), At := s } : Bq)).map Sum.inr) else (AP (NJ aN0 s c4) ((0:Int))))))))) else ((AP (NK aN0) ((3:Int))).map Sum.inr))
def fV (aN0 : Az) : Option Bq :=
 (bif ((((aN0.A3.length : Int) == 0) || decide ((aN0.A3.length : Int) > 100)) || decide ((aN0.A1.length : Int) > 120)) then some ({ Code := (1:Int), At := 0 } : Bq) else (AP (NI aN0) ((0:Int))))
theorem Yn (hk : fV aN0 = some r) (hlk : 0 < lk.length := by simp) : Ai ah hh 96 [.agg [A7 l1 0 aN0.A3, A7 l2 m3 aN0.A1]] H lk = some (.agg [iv r.Code, iv r.At], H) := by
 refine AA Tryz.func96 rfl Tryz.ntmps96 Tryz.results96 rfl rfl fun hO => ?_
 unfold fV at hk
 refine sr (Ax (cs := [_, _]) hO B2 (fun b1 G hO => Bd hO Cz FP (fun b2 G hO => pg (AX (sr ?_)))))
 refine Ao C0 hO 1 (.lit _ _ _) Ei ?_
 refine BC IZ ?_
 refine AR ?_
 refine pM (.bool _) ?_
 refine AQ (l1 := [_, _, _, _, _]) (fun S' => ∃ J, S' = ⟨Aq [(1, .ptr b1 0),(2, .ptr b2 0),(19, .bool (((aN0.A3.length : Int) == 0) || decide ((aN0.A3.length : Int) > 100)))] J, G⟩) ?_ ?_
 ·refine bc (b := ((aN0.A3.length : Int) == 0)) ?_ ?_ <;> intro hg
  ·repeat refine Bu hg ?_
   refine EJ hg (.bool _) ?_
   exact pE ⟨_, St.Aq _ ⟨rfl, rfl, by rw [hg]; rfl, trivial⟩⟩
  refine Ae hg (pF C0 (Ae hg ?_))
  refine GG hO 1 (.lit _ _ _) Ei (Ae hg ?_)
  refine BC IZ (Ae hg ?_)
  refine AR ?_
  refine EI hg (.bool _) ?_
  exact pE ⟨_, St.Aq _ ⟨rfl, rfl, by rw [hg]; rfl, trivial⟩⟩
 rintro _ ⟨J, rfl⟩
 refine pM (.bool _) ?_
 refine AQ (l1 := [_, _, _, _, _]) (fun S' => ∃ J, S' = ⟨Aq [(1, .ptr b1 0),(2, .ptr b2 0),(25, .bool ((((aN0.A3.length : Int) == 0) || decide ((aN0.A3.length : Int) > 100)) || decide ((aN0.A1.length : Int) > 120)))] J, G⟩) ?_ ?_
 ·refine bc (b := (((aN0.A3.length : Int) == 0) || decide ((aN0.A3.length : Int) > 100))) ?_ ?_ <;> intro hg
  ·repeat refine Bu hg ?_
   refine EJ hg (.bool _) ?_
   exact pE ⟨_, St.Aq _ ⟨rfl, rfl, by rw [hg]; rfl, trivial⟩⟩
  refine Ae hg (pF Cv (Ae hg ?_))
  refine GG hO 1 (.lit _ _ _) Gj (Ae hg ?_)
  refine BC K2 (Ae hg ?_)
  refine AR ?_
  refine EI hg (.bool _) ?_
  exact pE ⟨_, St.Aq _ ⟨rfl, rfl, by rw [hg]; rfl, trivial⟩⟩
 rintro _ ⟨J, rfl⟩
 refine pg (B1 hk ?_ ?_) <;> intro hk
 ·refine sr (HS [_, _] FP Gm ?_)
  refine CM (xs := [_, _]) hO 0 Cz rfl (fun G hO => pg (Ak (gr ?_)))
  replace hk := an hk; subst hk; exact CP hO (BU (n := 2) (Ac (AD _ _) (Ac (AD _ _) (C8)))) (Cb hO 0 [_, _] HJ Cz Bh)
 refine B7 (gn (AX (sr (Ao C0 hO 1 (.lit _ _ _) Ei ?_))))
 refine BC IZ ?_
 refine pM (.int _ _) (pg (CE ?_))
 refine AJ (F := NI aN0) (fun s S' => ∃ J G, A8 H G [.B6 b2 (.cells 2 [iv 0, iv 0]), .B6 b1 (.cells 2 [A7 l1 0 aN0.A3, A7 l2 m3 aN0.A1])] ∧ S' = ⟨Aq [(1, .ptr b1 0),(2, .ptr b2 0),(28, A7 l1 0 aN0.A3),(29, iv (aN0.A3.length : Int)),(30, iv s)] J, G⟩) hk ⟨_, _, hO, sh⟩ ?_
 rintro x3 _ y1 ⟨J, G, hO, rfl⟩ hk hx1
 refine sr (AR (pg (AX (B1 hk ?_ ?_)))) <;> intro hk
 ·refine B7 (gn (AX (CE (sr (pM (.int _ _) (bk hk fun c4 hc4 hk => ?_))))))
  refine pX hc4 GP C2 ?_
  refine DG (.agg [_, _, _, _]) (Fh (lm := 0) (off := 0) hc4 OI C2) (Bd hO C2 Rr (fun b5 G hO => ?_))
  refine pA (.int _ _) ?_
  refine CM (xs := [_, _, _, _]) hO 0 C2 rfl (fun G hO => pg (AX (sr ?_)))
  refine Ao Fp hO 0 (.str _) OO (bk hk fun v6 hv6 hk => ?_)
  refine AL (fun _ => R7 hv6) ?_
  refine pU ?_
  refine pM (.bool _) (bk hk fun t7 ht hk => ?_)
  refine AQ (l1 := [_, _, _, _, _]) (fun S' => ∃ J, S' = ⟨Aq [(1, .ptr b1 0),(2, .ptr b2 0),(3, iv x3),(4, .ptr b5 0),(28, A7 l1 0 aN0.A3),(29, iv (aN0.A3.length : Int)),(30, iv x3),(44, .bool t7)] J, G⟩) ?_ ?_
  ·refine bc (b := !v6) ?_ ?_ <;> intro hg
   ·replace hk := ct hg ht
    repeat refine Bu hg ?_
    refine EJ hg (.bool _) ?_
    cases hk; exact pE ⟨_, sh⟩
   replace hk := cf hg ht
   refine Ae hg (pF Ci (Ae hg ?_))
   refine GG hO 0 (.int _ _) B5 (Ae hg (bk hk fun v8 hv8 hk => ?_))
   refine AL (fun _ => He hv8) (Ae hg ?_)
   refine pU ?_
   refine EI hg (.bool _) ?_
   cases hk; exact pE ⟨_, sh⟩
  rintro _ ⟨J, rfl⟩
  refine pM (.bool _) (bk hk fun t9 ht hk => ?_)
  refine AQ (l1 := [_, _, _, _, _]) (fun S' => ∃ J, S' = ⟨Aq [(1, .ptr b1 0),(2, .ptr b2 0),(3, iv x3),(4, .ptr b5 0),(28, A7 l1 0 aN0.A3),(29, iv (aN0.A3.length : Int)),(30, iv x3),(50, .bool t9)] J, G⟩) ?_ ?_
  ·refine bc (b := t7) ?_ ?_ <;> intro hg
   ·replace hk := ct hg ht
    repeat refine Bu hg ?_
    refine EJ hg (.bool _) ?_
    cases hk; exact pE ⟨_, sh⟩
   replace hk := cf hg ht
   refine Ae hg (pF IL (Ae hg ?_))
   refine GG hO 0 (.int _ _) B5 (Ae hg (bk hk fun v10 hv10 hk => ?_))
   refine AL (fun _ => He hv10) (Ae hg ?_)
   refine pU ?_
   refine EI hg (.bool _) ?_
   cases hk; exact pE ⟨_, sh⟩
  rintro _ ⟨J, rfl⟩
  refine pM (.bool _) (bk hk fun t11 ht hk => ?_)
  refine AQ (l1 := [_, _, _, _, _]) (fun S' => ∃ J, S' = ⟨Aq [(1, .ptr b1 0),(2, .ptr b2 0),(3, iv x3),(4, .ptr b5 0),(28, A7 l1 0 aN0.A3),(29, iv (aN0.A3.length : Int)),(30, iv x3),(56, .bool t11)] J, G⟩) ?_ ?_
  ·refine bc (b := t9) ?_ ?_ <;> intro hg
   ·replace hk := ct hg ht
    repeat refine Bu hg ?_
    refine EJ hg (.bool _) ?_
    cases hk; exact pE ⟨_, sh⟩
   replace hk := cf hg ht
   refine Ae hg (pF IM (Ae hg ?_))
   refine GG hO 0 (.int _ _) B5 (Ae hg (bk hk fun v12 hv12 hk => ?_))
   refine AL (fun _ => He hv12) (Ae hg ?_)
   refine pU ?_
   refine EI hg (.bool _) ?_
   cases hk; exact pE ⟨_, sh⟩
  rintro _ ⟨J, rfl⟩
  refine pg (B1 hk ?_ ?_) <;> intro hk
  ·refine sr (pM (.int _ _) ?_)
   refine HS [_, _] FP Gm ?_
   refine CM (xs := [_, _]) hO 1 Cz rfl (fun G hO => pg (Ak (gr (br (gr (gr (br (gr (have hk := lx hx1 hk; ?_)))))))))
   replace hk := an hk; subst hk; exact CP hO (BU (n := 2) (Ac (AD _ _) (Ac (AD _ _) (C8)))) (Cb hO 1 [_, _] HJ Cz Bh)
  refine B7 (gn (sr (pA (.int _ _) (pg (CE ?_)))))
  refine AJ (F := NJ aN0 x3 c4) (fun s S' => ∃ J G, A8 H G [.B6 b5 (.cells 4 [.str c4.Name, iv c4.BN, iv c4.Bv, iv c4.CX]), .B6 b2 (.cells 2 [iv 0, iv 0]), .B6 b1 (.cells 2 [A7 l1 0 aN0.A3, A7 l2 m3 aN0.A1])] ∧ S' = ⟨Aq [(1, .ptr b1 0),(2, .ptr b2 0),(3, iv x3),(4, .ptr b5 0),(5, iv s),(28, A7 l1 0 aN0.A3),(29, iv (aN0.A3.length : Int)),(30, iv x3)] J, G⟩) hk ⟨_, _, hO, sh⟩ ?_
  rintro x13 _ y2 ⟨J, G, hO, rfl⟩ hk hx2
  refine AX (sr (pM (.int _ _) ?_))
  refine pM (.int _ _) ?_
  refine AR (pg (B1 hk ?_ ?_)) <;> intro hk
  ·refine B7 (gn (AX (CE (AX (Hz [1,3,5,7,9,11,13,15,16] [_,_,_,_,_,_,_,_,_] ?_)))))
   refine Ao C0 hO 2 (.lit _ _ _) Ei ?_
   refine pM (.int _ _) (bk hk fun c14 hc14 hk => ?_)
   refine pX hc14 GP C2 ?_
   refine pF Fp ?_
   refine DG (.str _) (IU (lm := 0) (off := 0) hc14 OO) ?_
   refine Ao Fp hO 0 (.str _) OO ?_
   refine pB (a := .str _) (b := .str _) (pg (B1 hk ?_ ?_)) <;> intro hk
   ·refine sr (pM (.int _ _) ?_)
    refine HS [_, _] FP Gm ?_
    refine CM (xs := [_, _]) hO 1 Cz rfl (fun G hO => pg (Ak (br (gr (gr (br (br (gr (gr (br (gr (have hk := lx hx2 hk; have hk := lx hx1 hk; ?_))))))))))))
    replace hk := an hk; subst hk; exact CP hO (BU (n := 2) (Ac (AD _ _) (Ac (AD _ _) (C8)))) (Cb hO 1 [_, _] HJ Cz Bh)
   refine B7 (bn (gn (Da (pM (.int _ _) ?_))))
   refine AR ?_
   refine pA (.int _ _) (pg ?_)
   cases hk; exact ⟨_, rfl, _, _, hO, sh⟩
  refine Eo (ge (ge (be (bn (gn (have hk := lx hx2 hk; Da (AR ?_)))))))
  refine pM (.int _ _) (pg ?_)
  cases hk; exact ⟨_, rfl, _, _, (pk hO [1, 2]), sh⟩
 refine Eo (ge (ge (be (gn (have hk := lx hx1 hk; AX (sr (pA (.int _ _) (pg (CE ?_)))))))))
 refine AJ (F := NK aN0) (fun s S' => ∃ J G, A8 H G [.B6 b2 (.cells 2 [iv 0, iv 0]), .B6 b1 (.cells 2 [A7 l1 0 aN0.A3, A7 l2 m3 aN0.A1])] ∧ S' = ⟨Aq [(1, .ptr b1 0),(2, .ptr b2 0),(6, iv s)] J, G⟩) hk ⟨_, _, hO, sh⟩ ?_
 rintro x15 _ y1 ⟨J, G, hO, rfl⟩ hk hx1
 refine AX (sr (pM (.int _ _) ?_))
 refine AR (pg (B1 hk ?_ ?_)) <;> intro hk
 ·refine B7 (gn (AX (CE (sr (Ao Cv hO 1 (.lit _ _ _) Gj ?_)))))
  refine BC K2 ?_
  refine pM (.int _ _) (pg (CE ?_))
  refine AJ (F := Jn aN0 x15) (fun s S' => ∃ J G, A8 H G [.B6 b2 (.cells 2 [iv 0, iv 0]), .B6 b1 (.cells 2 [A7 l1 0 aN0.A3, A7 l2 m3 aN0.A1])] ∧ S' = ⟨Aq [(1, .ptr b1 0),(2, .ptr b2 0),(6, iv x15),(82, iv (aN0.A1.length : Int)),(83, iv s)] J, G⟩) hk ⟨_, _, hO, sh⟩ ?_
  rintro x16 _ y2 ⟨J, G, hO, rfl⟩ hk hx2
  refine sr (AR (pg (AX (B1 hk ?_ ?_)))) <;> intro hk
  ·refine B7 (gn (AX (CE (sr (pM (.int _ _) ?_)))))
   refine pA (.int _ _) (pg (sr ?_))
   refine Bj hO 1 [_, _] CL B2 ?_
   refine pM (.int _ _) (bk hk fun v17 hv17 hk => ?_)
   refine AL (fun _ => Vx hv17) ?_
   refine pM (.int _ _) ?_
   refine AR (pg (B1 hk ?_ ?_)) <;> intro hk
   ·refine sr (pM (.int _ _) ?_)
    refine pM (.int _ _) ?_
    refine HS [_, _] FP Gm ?_
    refine CM (xs := [_, _]) hO 0 Cz rfl (fun G hO => pg (Ak (br (gr (gr (br (br (gr (gr (br (gr (have hk := lx hx2 hk; have hk := lx hx1 hk; ?_))))))))))))
    replace hk := an hk; subst hk; exact CP hO (BU (n := 2) (Ac (AD _ _) (Ac (AD _ _) (C8)))) (Cb hO 0 [_, _] HJ Cz Bh)
   refine B7 (bn (gn (Da (AR ?_))))
   refine pM (.int _ _) (pg ?_)
   cases hk; exact ⟨_, rfl, _, _, hO, sh⟩
  refine Eo (ge (ge (be (bn (gn (have hk := lx hx2 hk; Da (pM (.int _ _) ?_)))))))
  refine AR ?_
  refine pA (.int _ _) (pg ?_)
  cases hk; exact ⟨_, rfl, _, _, hO, sh⟩
 refine Eo (ge (ge (be (gn (have hk := lx hx1 hk; AX (sr (Ao C0 hO 1 (.lit _ _ _) Ei ?_)))))))
 refine BC IZ ?_
 refine pM (.int _ _) (pg (CE ?_))
 refine AJ (F := L0 aN0) (fun s S' => ∃ J G, A8 H G [.B6 b2 (.cells 2 [iv 0, iv 0]), .B6 b1 (.cells 2 [A7 l1 0 aN0.A3, A7 l2 m3 aN0.A1])] ∧ S' = ⟨Aq [(1, .ptr b1 0),(2, .ptr b2 0),(97, iv (aN0.A3.length : Int)),(98, iv s)] J, G⟩) hk ⟨_, _, hO, sh⟩ ?_
 rintro x18 _ y1 ⟨J, G, hO, rfl⟩ hk hx1
 refine sr (AR (pg (AX (B1 hk ?_ ?_)))) <;> intro hk
 ·refine B7 (gn (AX (CE (sr (pM (.int _ _) ?_)))))
  refine pA (.int _ _) (pg (sr ?_))
  refine pA (.int _ _) (pg (CE ?_))
  refine AJ (F := Q5 aN0 x18) (fun s S' => ∃ J G, A8 H G [.B6 b2 (.cells 2 [iv 0, iv 0]), .B6 b1 (.cells 2 [A7 l1 0 aN0.A3, A7 l2 m3 aN0.A1])] ∧ S' = ⟨Aq [(1, .ptr b1 0),(2, .ptr b2 0),(8, iv x18),(9, iv s),(97, iv (aN0.A3.length : Int)),(98, iv x18)] J, G⟩) hk ⟨_, _, hO, sh⟩ ?_
  rintro x19 _ y2 ⟨J, G, hO, rfl⟩ hk hx2
  refine AX (sr (pM (.int _ _) ?_))
  refine AR (pg (B1 hk ?_ ?_)) <;> intro hk
  ·refine B7 (gn (AX (CE (sr (Bj hO 1 [_, _] CL B2 ?_)))))
   refine pM (.int _ _) ?_
   refine pM (.int _ _) ?_
   refine HS [_, _] Di Od (bk hk fun v20 hv20 hk => ?_)
   refine AL (fun _ => Vz hv20) ?_
   refine AR (pg (B1 hk ?_ ?_)) <;> intro hk
   ·refine sr (pM (.int _ _) ?_)
    refine HS [_, _] FP Gm ?_
    refine CM (xs := [_, _]) hO 0 Cz rfl (fun G hO => pg (Ak (br (gr (gr (br (br (gr (gr (br (gr (have hk := lx hx2 hk; have hk := lx hx1 hk; ?_))))))))))))
    replace hk := an hk; subst hk; exact CP hO (BU (n := 2) (Ac (AD _ _) (Ac (AD _ _) (C8)))) (Cb hO 0 [_, _] HJ Cz Bh)
   refine B7 (bn (gn (Da (pM (.int _ _) ?_))))
   refine AR ?_
   refine pA (.int _ _) (pg ?_)
   cases hk; exact ⟨_, rfl, _, _, hO, sh⟩
  refine Eo (ge (ge (be (bn (gn (have hk := lx hx2 hk; Da (AR ?_)))))))
  refine pM (.int _ _) (pg ?_)
  cases hk; exact ⟨_, rfl, _, _, hO, sh⟩
 refine Eo (ge (ge (be (gn (have hk := lx hx1 hk; sr (HS [_, _] FP Gm ?_))))))
 refine CM (xs := [_, _]) hO 0 Cz rfl (fun G hO => pg (Ak ?_))
 replace hk := an hk; subst hk; exact CP hO (BU (n := 2) (Ac (AD _ _) (Ac (AD _ _) (C8)))) (Cb hO 0 [_, _] HJ Cz Bh)
def fM (aN0 : Az) : Option Bool :=
 ((fV aN0).bind fun v2 => some (v2.Code == 0))
theorem Yf (hk : fM aN0 = some r) (hlk : 0 < lk.length := by simp) : Ai ah hh 85 [.agg [A7 l1 0 aN0.A3, A7 l2 m3 aN0.A1]] H lk = some (.bool r, H) := by
 refine AA Tryz.func85 rfl Tryz.ntmps85 Tryz.results85 rfl rfl fun hO => ?_
 unfold fM at hk
 refine sr (Ax (cs := [_, _]) hO B2 (fun b1 G hO => ?_))
 refine pA (.bool _) (pg (sr ?_))
 refine Bj hO 0 [_, _] CL B2 (bk hk fun v2 hv2 hk => ?_)
 refine AL (fun _ => Yn hv2) (Bd hO Cz FP (fun b3 G hO => ?_))
 refine CM (xs := [_, _]) hO 0 Cz rfl (fun G hO => pg (sr ?_))
 refine Ao ZH hO 0 (.int _ _) B5 ?_
 refine AR ?_
 refine pA (.bool _) (pg (Ak ?_))
 cases hk; exact AU hO
def YI (aX0 : Int) (aA1 : Int) (aB2 : Int) : Option Bool :=
 some (decide (aX0 ≥ aA1) && decide (aX0 ≤ aB2))
theorem JF (hk : YI aX0 aA1 aB2 = some r) (hlk : 0 < lk.length := by simp) : Ai ah hh 48 [iv aX0, iv aA1, iv aB2] H lk = some (.bool r, H) := by
 refine AA Tryz.func48 rfl Tryz.ntmps48 Tryz.results48 rfl rfl fun hO => ?_
 unfold YI at hk
 refine sr (pA (.bool _) (pg (sr ?_)))
 refine pM (.int _ _) ?_
 refine pM (.int _ _) ?_
 refine AR ?_
 refine pM (.bool _) ?_
 refine AQ (l1 := [_, _, _, _]) (fun S' => ∃ J, S' = ⟨Aq [(14, .bool (decide (aX0 ≥ aA1) && decide (aX0 ≤ aB2)))] J, H⟩) ?_ ?_
 ·refine bc (b := decide (aX0 ≥ aA1)) ?_ ?_ <;> intro hg
  ·refine Ae hg (pM (.int _ _) (Ae hg ?_))
   refine pM (.int _ _) (Ae hg ?_)
   refine AR ?_
   refine EJ hg (.bool _) ?_
   exact pE ⟨_, St.Aq _ ⟨by rw [hg]; rfl, trivial⟩⟩
  refine Bu hg (Bu hg (Bu hg (EI hg (.bool _) ?_)))
  exact pE ⟨_, St.Aq _ ⟨by rw [hg]; rfl, trivial⟩⟩
 rintro _ ⟨J, rfl⟩
 refine pA (.bool _) (pg (Ak ?_))
 cases hk; exact AU hO
def Pw (aN0 : Az) (aLies1 : List Int) : Int → Option (Int ⊕ Bool) := fun s =>
 (bif decide (s < (aLies1.length : Int)) then ((Aa aLies1 s).bind fun c3 => ((YI c3 (0:Int) (2:Int)).bind fun v4 => ((bif !v4 then some true else ((bif (c3 != 0) then ((Aa aN0.A1 s).bind fun c7 => some (c7.Kind != 3)) else some false).bind fun t6 => some t6)).bind fun t5 => (bif t5 then ((some false).map Sum.inr) else some (.inl (AV (s + 1))))))) else ((some true).map Sum.inr))
def fN (aN0 : Az) (aLies1 : List Int) : Option Bool :=
 (bif ((aLies1.length : Int) != (aN0.A1.length : Int)) then some false else (AP (Pw aN0 aLies1) ((0:Int))))
theorem Yg (hk : fN aN0 aLies1 = some r) (hlk : 0 < lk.length := by simp) : Ai ah hh 86 [.agg [A7 l1 0 aN0.A3, A7 l2 m3 aN0.A1], A7 l4 0 aLies1] H lk = some (.bool r, H) := by
 refine AA Tryz.func86 rfl Tryz.ntmps86 Tryz.results86 rfl rfl fun hO => ?_
 unfold fN at hk
 refine sr (Ax (cs := [_, _]) hO B2 (fun b1 G hO => ?_))
 refine pA (.bool _) (pg (AX (sr ?_)))
 refine pM (.lit _ _ _) ?_
 refine BC OJ ?_
 refine Ao Cv hO 0 (.lit _ _ _) Gj ?_
 refine BC K2 ?_
 refine AR (pg (B1 hk ?_ ?_)) <;> intro hk
 ·refine sr (pA (.bool _) (pg (Ak (gr ?_))))
  cases hk; exact AU hO
 refine B7 (gn (AX (sr (pM (.lit _ _ _) ?_))))
 refine BC OJ ?_
 refine pM (.int _ _) (pg (CE ?_))
 refine AJ (F := Pw aN0 aLies1) (fun s S' => ∃ J G, A8 H G [.B6 b1 (.cells 2 [A7 l1 0 aN0.A3, A7 l2 m3 aN0.A1])] ∧ S' = ⟨Aq [(2, .ptr b1 0),(13, A7 l4 0 aLies1),(14, iv (aLies1.length : Int)),(15, iv s)] J, G⟩) hk ⟨_, _, hO, sh⟩ ?_
 rintro x2 _ y1 ⟨J, G, hO, rfl⟩ hk hx1
 refine sr (AR (pg (AX (B1 hk ?_ ?_)))) <;> intro hk
 ·refine B7 (gn (AX (CE (sr (pM (.int _ _) (bk hk fun c3 hc3 hk => ?_))))))
  refine pX hc3 HV Ey ?_
  refine DG (.int _ _) (IU (lm := 0) (off := 0) hc3 B5) ?_
  refine pA (.int _ _) ?_
  refine pA (.int _ _) (pg (sr ?_))
  refine pM (.int _ _) (bk hk fun v4 hv4 hk => ?_)
  refine AL (fun _ => JF hv4) ?_
  refine pU ?_
  refine pM (.bool _) (bk hk fun t5 ht hk => ?_)
  refine AQ (l1 := [_, _, _, _, _, _, _, _, _, _, _, _]) (fun S' => ∃ J, S' = ⟨Aq [(2, .ptr b1 0),(13, A7 l4 0 aLies1),(14, iv (aLies1.length : Int)),(15, iv x2),(35, .bool t5)] J, G⟩) ?_ ?_
  ·refine bc (b := !v4) ?_ ?_ <;> intro hg
   ·replace hk := ct hg ht
    refine Bu hg (Bu hg (Bu hg (K4 (K4 (K4 (K4 (K4 (K4 (K4 (Bu hg (EJ hg (.bool _) ?_)))))))))))
    cases hk; exact pE ⟨_, sh⟩
   replace hk := cf hg ht
   refine Ae hg (pM (.int _ _) (Ae hg ?_))
   refine AR (Ae hg ?_)
   refine pM (.bool _) (bk hk fun t6 ht hk => ?_)
   refine AQ (l1 := [_, _, _, _, _, _, _, _]) (fun S' => ∃ J, S' = ⟨Aq [(2, .ptr b1 0),(13, A7 l4 0 aLies1),(14, iv (aLies1.length : Int)),(15, iv x2),(23, .bool (!v4)),(34, .bool t6)] J, G⟩) ?_ ?_
   ·refine bc (b := (c3 != 0)) (fun hg2 => ?_) (fun hg2 => ?_)
    ·replace hk := ct hg2 ht
     refine Ae hg2 (pF Cv (Ae hg2 ?_))
     refine GG hO 0 (.lit _ _ _) Gj (Ae hg2 ?_)
     refine pM (.int _ _) (Ae hg2 (bk hk fun c7 hc7 hk => ?_))
     refine pX hc7 Gq BL (Ae hg2 ?_)
     refine pF DF (Ae hg2 ?_)
     refine DG (.int _ _) (IU (lm := m3) (off := 0) hc7 B5) (Ae hg2 ?_)
     refine AR (Ae hg ?_)
     refine EJ hg2 (.bool _) ?_
     cases hk; exact pE ⟨_, sh⟩
    replace hk := cf hg2 ht
    repeat refine Bu hg2 ?_
    refine Ae hg (EI hg2 (.bool _) ?_)
    cases hk; exact pE ⟨_, sh⟩
   rintro _ ⟨J, rfl⟩
   refine EI hg (.bool _) ?_
   cases hk; exact pE ⟨_, sh⟩
  rintro _ ⟨J, rfl⟩
  refine pg (B1 hk ?_ ?_) <;> intro hk
  ·refine sr (pA (.bool _) (pg (Ak (br (gr (gr (br (gr (have hk := lx hx1 hk; ?_)))))))))
   cases hk; exact AU hO
  refine B7 (bn (gn (Da (AR ?_))))
  refine pM (.int _ _) (pg ?_)
  cases hk; exact ⟨_, rfl, _, _, hO, sh⟩
 refine Eo (ge (ge (be (gn (have hk := lx hx1 hk; sr (pA (.bool _) (pg (Ak ?_))))))))
 cases hk; exact AU hO
def eQ (aN0 : Az) (aLies1 : List Int) : Option Bool :=
 ((fM aN0).bind fun v2 => ((bif v2 then ((fN aN0 aLies1).bind fun v4 => some v4) else some false).bind fun t3 => some t3))
theorem YG (hk : eQ aN0 aLies1 = some r) (hlk : 0 < lk.length := by simp) : Ai ah hh 46 [.agg [A7 l1 0 aN0.A3, A7 l2 m3 aN0.A1], A7 l4 0 aLies1] H lk = some (.bool r, H) := by
 refine AA Tryz.func46 rfl Tryz.ntmps46 Tryz.results46 rfl rfl fun hO => ?_
 unfold eQ at hk
 refine sr (Ax (cs := [_, _]) hO B2 (fun b1 G hO => ?_))
 refine pA (.bool _) (pg (sr ?_))
 refine Bj hO 0 [_, _] CL B2 (bk hk fun v2 hv2 hk => ?_)
 refine AL (fun _ => Yf hv2) ?_
 refine pM (.bool _) (bk hk fun t3 ht hk => ?_)
 refine AQ (l1 := [_, _, _, _]) (fun S' => ∃ J, S' = ⟨Aq [(11, .bool t3)] J, G⟩) ?_ ?_
 ·refine bc (b := v2) ?_ ?_ <;> intro hg
  ·replace hk := ct hg ht
   refine Ae hg (Bj hO 0 [_, _] CL B2 (Ae hg ?_))
   refine pM (.lit _ _ _) (Ae hg (bk hk fun v4 hv4 hk => ?_))
   refine AL (fun _ => Yg hv4) ?_
   refine EJ hg (.bool _) ?_
   cases hk; exact pE ⟨_, sh⟩
  replace hk := cf hg ht
  refine Bu hg (Bu hg (Bu hg (EI hg (.bool _) ?_)))
  cases hk; exact pE ⟨_, sh⟩
 rintro _ ⟨J, rfl⟩
 refine pA (.bool _) (pg (Ak ?_))
 cases hk; exact AU hO
def fO (aN0 : Az) (aS1 : CG) : Option Bool :=
 ((YI aS1.A0 (0:Int) (AV ((aN0.A3.length : Int) - 1))).bind fun v3 => ((bif (v3 && ((aS1.Way == 1) || (aS1.Way == (-1:Int)))) then ((Aa aN0.A3 aS1.A0).bind fun c5 => ((YI aS1.At (0:Int) c5.BN).bind fun v6 => some v6)) else some false).bind fun t4 => some t4))
theorem Yh (hk : fO aN0 aS1 = some r) (hlk : 0 < lk.length := by simp) : Ai ah hh 87 [.agg [A7 l1 0 aN0.A3, A7 l2 m3 aN0.A1], .agg [iv aS1.A0, iv aS1.At, iv aS1.Way]] H lk = some (.bool r, H) := by
 refine AA Tryz.func87 rfl Tryz.ntmps87 Tryz.results87 rfl rfl fun hO => ?_
 unfold fO at hk
 refine sr (Ax (cs := [_, _]) hO B2 (fun b1 G hO => ?_))
 refine Ax (cs := [_, _, _]) hO EC (fun b2 G hO => ?_)
 refine pA (.bool _) (pg (AX ?_))
 refine Hz [1,3,5,7,9,11,12,14,16,19,20,22,24,27,28,30,32,34,37,39,41,43,45,47,49,51,53,54,56,58] [_,_,_,_,_,_,_,_,_,_,_,_,_,_,_,_,_,_,_,_,_,_,_,_,_,_,_,_,_,_] ?_
 refine Ao DT hO 0 (.int _ _) B5 ?_
 refine Ao C0 hO 1 (.lit _ _ _) Ei ?_
 refine BC IZ ?_
 refine AR (bk hk fun v3 hv3 hk => ?_)
 refine AL (fun _ => JF hv3) ?_
 refine pM (.bool _) ?_
 refine AQ (l1 := [_, _, _, _, _, _, _, _, _]) (fun S' => ∃ J, S' = ⟨Aq [(2, .ptr b1 0),(3, .ptr b2 0),(21, .bool (v3 && ((aS1.Way == 1) || (aS1.Way == (-1:Int)))))] J, G⟩) ?_ ?_
 ·refine bc (b := v3) ?_ ?_ <;> intro hg
  ·refine Ae hg (pF DU (Ae hg ?_))
   refine GG hO 0 (.int _ _) B5 (Ae hg ?_)
   refine AR (Ae hg ?_)
   refine pM (.bool _) ?_
   refine AQ (l1 := [_, _, _, _]) (fun S' => ∃ J, S' = ⟨Aq [(2, .ptr b1 0),(3, .ptr b2 0),(12, .bool v3),(20, .bool ((aS1.Way == 1) || (aS1.Way == (-1:Int))))] J, G⟩) ?_ ?_
   ·refine bc (b := (aS1.Way == 1)) (fun hg2 => ?_) (fun hg2 => ?_)
    ·refine Bu hg2 (Bu hg2 (Bu hg2 (Ae hg (EJ hg2 (.bool _) ?_))))
     exact pE ⟨_, St.Aq _ ⟨rfl, rfl, rfl, by rw [hg2]; rfl, trivial⟩⟩
    refine Ae hg2 (pF DU (Ae hg2 ?_))
    refine GG hO 0 (.int _ _) B5 (Ae hg2 ?_)
    refine AR (Ae hg ?_)
    refine EI hg2 (.bool _) ?_
    exact pE ⟨_, St.Aq _ ⟨rfl, rfl, rfl, by rw [hg2]; rfl, trivial⟩⟩
   rintro _ ⟨J, rfl⟩
   refine EJ hg (.bool _) ?_
   exact pE ⟨_, St.Aq _ ⟨rfl, rfl, by rw [hg]; rfl, trivial⟩⟩
  repeat refine Bu hg ?_
  refine K4 (K4 (K4 (Bu hg (EI hg (.bool _) ?_))))
  exact pE ⟨_, St.Aq _ ⟨rfl, rfl, by rw [hg]; rfl, trivial⟩⟩
 rintro _ ⟨J, rfl⟩
 refine pM (.bool _) (bk hk fun t4 ht hk => ?_)
 refine AQ (l1 := [_, _, _, _, _, _, _, _, _, _, _]) (fun S' => ∃ J, S' = ⟨Aq [(33, .bool t4)] J, G⟩) ?_ ?_
 ·refine bc (b := (v3 && ((aS1.Way == 1) || (aS1.Way == (-1:Int))))) ?_ ?_ <;> intro hg
  ·replace hk := ct hg ht
   refine Ae hg (pF Ej (Ae hg ?_))
   refine GG hO 0 (.int _ _) B5 (Ae hg ?_)
   refine pF C0 (Ae hg ?_)
   refine GG hO 1 (.lit _ _ _) Ei (Ae hg ?_)
   refine pF DT (Ae hg ?_)
   refine GG hO 0 (.int _ _) B5 (Ae hg (bk hk fun c5 hc5 hk => ?_))
   refine pX hc5 GP C2 (Ae hg ?_)
   refine pF Ci (Ae hg ?_)
   refine DG (.int _ _) (IU (lm := 0) (off := 1) hc5 B5) (Ae hg (bk hk fun v6 hv6 hk => ?_))
   refine AL (fun _ => JF hv6) ?_
   refine EJ hg (.bool _) ?_
   cases hk; exact pE ⟨_, sh⟩
  replace hk := cf hg ht
  repeat refine Bu hg ?_
  refine EI hg (.bool _) ?_
  cases hk; exact pE ⟨_, sh⟩
 rintro _ ⟨J, rfl⟩
 refine pA (.bool _) (pg (Ak ?_))
 cases hk; exact AU hO
def aL (aN0 : Az) (aS1 : CG) : Option Int :=
 (bif (aS1.Way == 1) then ((Aa aN0.A3 aS1.A0).bind fun c3 => some (AV (c3.BN - aS1.At))) else some aS1.At)
theorem Tg (hk : aL aN0 aS1 = some r) (hlk : 0 < lk.length := by simp) : Ai ah hh 51 [.agg [A7 l1 0 aN0.A3, A7 l2 m3 aN0.A1], .agg [iv aS1.A0, iv aS1.At, iv aS1.Way]] H lk = some (iv r, H) := by
 refine AA Tryz.func51 rfl Tryz.ntmps51 Tryz.results51 rfl rfl fun hO => ?_
 unfold aL at hk
 refine sr (Ax (cs := [_, _]) hO B2 (fun b1 G hO => ?_))
 refine Ax (cs := [_, _, _]) hO EC (fun b2 G hO => ?_)
 refine pA (.int _ _) (pg (AX (sr ?_)))
 refine Ao DU hO 0 (.int _ _) B5 ?_
 refine AR (pg (B1 hk ?_ ?_)) <;> intro hk
 ·refine AX (Hz [1,3,5,7,9,11,13,15,17,18,20] [_,_,_,_,_,_,_,_,_,_,_] ?_)
  refine Ao C0 hO 1 (.lit _ _ _) Ei ?_
  refine Ao DT hO 0 (.int _ _) B5 (bk hk fun c3 hc3 hk => ?_)
  refine pX hc3 GP C2 ?_
  refine pF Ci ?_
  refine DG (.int _ _) (IU (lm := 0) (off := 1) hc3 B5) ?_
  refine Ao Ej hO 0 (.int _ _) B5 ?_
  refine AR ?_
  refine pA (.int _ _) (pg (Ak (gr ?_)))
  cases hk; exact AU hO
 refine B7 (gn (sr (Ao Ej hO 0 (.int _ _) B5 ?_)))
 refine pA (.int _ _) (pg (Ak ?_))
 cases hk; exact AU hO
def aM (aN0 : Az) (aS1 : CG) : Option Int :=
 ((Aa aN0.A3 aS1.A0).bind fun c3 => ((aL aN0 aS1).bind fun v4 => some (AV (c3.BN - v4))))
theorem Po (hk : aM aN0 aS1 = some r) (hlk : 0 < lk.length := by simp) : Ai ah hh 56 [.agg [A7 l1 0 aN0.A3, A7 l2 m3 aN0.A1], .agg [iv aS1.A0, iv aS1.At, iv aS1.Way]] H lk = some (iv r, H) := by
 refine AA Tryz.func56 rfl Tryz.ntmps56 Tryz.results56 rfl rfl fun hO => ?_
 unfold aM at hk
 refine sr (Ax (cs := [_, _]) hO B2 (fun b1 G hO => ?_))
 refine Ax (cs := [_, _, _]) hO EC (fun b2 G hO => ?_)
 refine pA (.int _ _) (pg (AX ?_))
 refine Hz [1,3,5,7,9,11,13,15,17,19,20,22] [_,_,_,_,_,_,_,_,_,_,_,_] ?_
 refine Ao C0 hO 1 (.lit _ _ _) Ei ?_
 refine Ao DT hO 0 (.int _ _) B5 (bk hk fun c3 hc3 hk => ?_)
 refine pX hc3 GP C2 ?_
 refine pF Ci ?_
 refine DG (.int _ _) (IU (lm := 0) (off := 1) hc3 B5) ?_
 refine Bj hO 1 [_, _] CL B2 ?_
 refine Bj hO 0 [_, _, _] J8 EC (bk hk fun v4 hv4 hk => ?_)
 refine AL (fun _ => Tg hv4) ?_
 refine AR ?_
 refine pA (.int _ _) (pg (Ak ?_))
 cases hk; exact AU hO
def YK (aPiece0 : Int) (aWay1 : Int) : Option Ay :=
 (bif (aWay1 == 1) then some ({ A0 := aPiece0, B9 := (1:Int) } : Ay) else some ({ A0 := aPiece0, B9 := 0 } : Ay))
theorem KE (hk : YK aPiece0 aWay1 = some r) (hlk : 0 < lk.length := by simp) : Ai ah hh 53 [iv aPiece0, iv aWay1] H lk = some (.agg [iv r.A0, iv r.B9], H) := by
 refine AA Tryz.func53 rfl Tryz.ntmps53 Tryz.results53 rfl rfl fun hO => ?_
 unfold YK at hk
 refine sr (Bd hO AS Di (fun b1 G hO => pg (AX (sr (pM (.int _ _) ?_)))))
 refine AR (pg (B1 hk ?_ ?_)) <;> intro hk
 ·refine sr (pM (.int _ _) ?_)
  refine HS [_, _] Di Od ?_
  refine CM (xs := [_, _]) hO 0 AS rfl (fun G hO => pg (Ak (gr ?_)))
  replace hk := an hk; subst hk; exact CP hO (BU (n := 2) (Ac (AD _ _) (Ac (AD _ _) (C8)))) (Cb hO 0 [_, _] Bz AS Bh)
 refine B7 (gn (sr (pM (.int _ _) ?_)))
 refine HS [_, _] Di Od ?_
 refine CM (xs := [_, _]) hO 0 AS rfl (fun G hO => pg (Ak ?_))
 replace hk := an hk; subst hk; exact CP hO (BU (n := 2) (Ac (AD _ _) (Ac (AD _ _) (C8)))) (Cb hO 0 [_, _] Bz AS Bh)
def Pz (aE1 : Ay) (x3 : Int) (c4 : AO) : Int → Option (Int ⊕ (Int ⊕ (Int × Int))) := fun s =>
 (bif decide (s < (c4.Ends.length : Int)) then ((Aa c4.Ends s).bind fun c7 => (bif ((c7.A0 == aE1.A0) && ((c7.B9 == aE1.B9) && true)) then (((some (x3, s)).map Sum.inr).map Sum.inr) else some (.inl (AV (s + 1))))) else ((some (.inl (AV (x3 + 1)))).map Sum.inr))
def Py (aN0 : Az) (aE1 : Ay) : Int → Option (Int ⊕ (Int × Int)) := fun s =>
 (bif decide (s < (aN0.A1.length : Int)) then ((Aa aN0.A1 s).bind fun c4 => (AP (Pz aE1 s c4) ((0:Int)))) else ((some ((-1:Int), (-1:Int))).map Sum.inr))
def dA (aN0 : Az) (aE1 : Ay) : Option (Int × Int) :=
 (AP (Py aN0 aE1) ((0:Int)))
theorem Tq (hk : dA aN0 aE1 = some r) (hlk : 0 < lk.length := by simp) : Ai ah hh 89 [.agg [A7 l1 0 aN0.A3, A7 l2 m3 aN0.A1], .agg [iv aE1.A0, iv aE1.B9]] H lk = some (.EZ [iv r.1, iv r.2], H) := by
 refine AA Tryz.func89 rfl Tryz.ntmps89 Tryz.results89 rfl rfl fun hO => ?_
 unfold dA at hk
 refine sr (Ax (cs := [_, _]) hO B2 (fun b1 G hO => ?_))
 refine Ax (cs := [_, _]) hO AS (fun b2 G hO => ?_)
 refine pA (.int _ _) ?_
 refine pA (.int _ _) (pg (AX (sr ?_)))
 refine Ao Cv hO 1 (.lit _ _ _) Gj ?_
 refine BC K2 ?_
 refine pM (.int _ _) (pg (CE ?_))
 refine AJ (F := Py aN0 aE1) (fun s S' => ∃ J G, A8 H G [.B6 b2 (.cells 2 [iv aE1.A0, iv aE1.B9])] ∧ S' = ⟨Aq [(3, .ptr b2 0),(11, A7 l2 m3 aN0.A1),(12, iv (aN0.A1.length : Int)),(13, iv s)] J, G⟩) hk ⟨_, _, (pk hO [0]), sh⟩ ?_
 rintro x3 _ y1 ⟨J, G, hO, rfl⟩ hk hx1
 refine sr (AR (pg (AX (B1 hk ?_ ?_)))) <;> intro hk
 ·refine B7 (gn (AX (CE (sr (pM (.int _ _) (bk hk fun c4 hc4 hk => ?_))))))
  refine pX hc4 Gq BL ?_
  refine DG (.agg [_, _, _]) (Fh (lm := m3) (off := 0) hc4 HI BL) (Bd hO BL J7 (fun b5 G hO => ?_))
  refine pA (.int _ _) ?_
  refine CM (xs := [_, _, _]) hO 0 BL rfl (fun G hO => pg (sr ?_))
  refine Ao Cu hO 0 (.lit _ _ _) FQ ?_
  refine BC HK ?_
  refine pM (.int _ _) (pg (CE ?_))
  refine AJ (F := Pz aE1 x3 c4) (fun s S' => ∃ J G, A8 H G [.B6 b2 (.cells 2 [iv aE1.A0, iv aE1.B9])] ∧ S' = ⟨Aq [(3, .ptr b2 0),(6, iv x3),(11, A7 l2 m3 aN0.A1),(12, iv (aN0.A1.length : Int)),(13, iv x3),(19, A7 m3 0 c4.Ends),(20, iv (c4.Ends.length : Int)),(21, iv s)] J, G⟩) hk ⟨_, _, (pk hO [1]), sh⟩ ?_
  rintro x6 _ y2 ⟨J, G, hO, rfl⟩ hk hx2
  refine sr (AR (pg (AX (B1 hk ?_ ?_)))) <;> intro hk
  ·refine B7 (gn (AX (CE (sr (pM (.int _ _) (bk hk fun c7 hc7 hk => ?_))))))
   refine pX hc7 CT AS ?_
   refine DG (.agg [_, _]) (Fh (lm := 0) (off := 0) hc7 Bz AS) (Bd hO AS Di (fun b8 G hO => ?_))
   refine pA (.int _ _) ?_
   refine CM (xs := [_, _]) hO 0 AS rfl (fun G hO => pg (sr ?_))
   refine Bj hO 0 [_, _] Bz AS ?_
   refine Bj hO 1 [_, _] Bz AS ?_
   refine dE TK (Qn (Qo _ _ _) (Qn (Qo _ _ _) (rfl))) (pg (B1 hk ?_ ?_)) <;> intro hk
   ·refine sr (pM (.int _ _) ?_)
    refine pM (.int _ _) ?_
    refine pA (.int _ _) ?_
    refine pA (.int _ _) (pg (Ak (br (gr (gr (br (br (gr (gr (br (gr (have hk := lx hx2 hk; have hk := lx hx1 hk; ?_))))))))))))
    replace hk := an hk; subst hk; exact CP hO (DZ (n := 3) (Ac (AD _ _) (Ac (AD _ _) (C8)))) (Cp (.int _ _) (Cp (.int _ _) Bh))
   refine B7 (bn (gn (Da (AR ?_))))
   refine pM (.int _ _) (pg ?_)
   cases hk; exact ⟨_, rfl, _, _, (pk hO [1]), sh⟩
  refine Eo (ge (ge (be (bn (gn (have hk := lx hx2 hk; Da (AR ?_)))))))
  refine pM (.int _ _) (pg ?_)
  cases hk; exact ⟨_, rfl, _, _, hO, sh⟩
 refine Eo (ge (ge (be (gn (have hk := lx hx1 hk; sr (pA (.int _ _) ?_))))))
 refine pA (.int _ _) (pg (Ak ?_))
 replace hk := an hk; subst hk; exact CP hO (DZ (n := 3) (Ac (AD _ _) (Ac (AD _ _) (C8)))) (Cp (.int _ _) (Cp (.int _ _) Bh))
def fR (aJ0 : AO) (aK1 : Int) : Option (List Ay) :=
 (bif (aJ0.Kind == 2) then ((Aa aJ0.Ends (AV ((1:Int) - aK1))).bind fun c2 => some ([c2] : List Ay)) else (bif (aJ0.Kind == 3) then (bif (aK1 == 0) then ((Aa aJ0.Ends (1:Int)).bind fun c4 => ((Aa aJ0.Ends (2:Int)).bind fun c5 => some ([c4, c5] : List Ay))) else ((Aa aJ0.Ends (0:Int)).bind fun c7 => some ([c7] : List Ay))) else (bif (aJ0.Kind == 4) then ((Aa ([(1:Int), (0:Int), (3:Int), (2:Int)] : List Int) aK1).bind fun c9 => ((Aa aJ0.Ends c9).bind fun c10 => some ([c10] : List Ay))) else some ([] : List Ay))))
theorem Tr (hk : fR aJ0 aK1 = some r) (hlk : 0 < lk.length := by simp) : Ai ah hh 90 [.agg [iv aJ0.Kind, .str aJ0.Name, A7 l1 0 aJ0.Ends], iv aK1] H lk = some (A7 0 0 r, H) := by
 refine AA Tryz.func90 rfl Tryz.ntmps90 Tryz.results90 rfl rfl fun hO => ?_
 unfold fR at hk
 refine sr (Ax (cs := [_, _, _]) hO BL (fun b1 G hO => ?_))
 refine pA (.tl 0 []) (pg (AX (sr ?_)))
 refine Ao DF hO 0 (.int _ _) B5 (pg (CE (sr ?_)))
 refine AR ?_
 refine pA (.bool _) (pg (B1 hk ?_ ?_)) <;> intro hk
 ·refine sr (Ao Cu hO 0 (.lit _ _ _) FQ ?_)
  refine pM (.int _ _) ?_
  refine AR (bk hk fun c2 hc2 hk => ?_)
  refine pX hc2 CT AS ?_
  refine DG (.agg [_, _]) (Fh (lm := 0) (off := 0) hc2 Bz AS) ?_
  refine Rh (ps := [(0, (.agg [_, _]))]) ([c2] : List Ay) CT AS Di (Bc (D8 (α := Ay) c2) (Cs)) ?_
  refine pA (.tl 1 (A9 0 ([c2] : List Ay))) (pg (Ak (br (gr ?_))))
  replace hO := A8.FK hO lk.length ([c2] : List Ay)
  replace hk := an hk; subst hk; exact CP hO (G8 (xs := ([c2] : List Ay)) hlk 0) (Cp (.tl 1 (A9 0 ([c2] : List Ay))) Bh)
 refine sr (AR ?_)
 refine pA (.bool _) (pg (B1 hk ?_ ?_)) <;> intro hk
 ·refine AX (sr (pM (.int _ _) ?_))
  refine AR (pg (B1 hk ?_ ?_)) <;> intro hk
  ·refine AX (Hz [1,3,5,7,9,11,13,15,16,18] [_,_,_,_,_,_,_,_,_,_] ?_)
   refine Ao Cu hO 0 (.lit _ _ _) FQ (bk hk fun c4 hc4 hk => ?_)
   refine pX hc4 CT AS ?_
   refine DG (.agg [_, _]) (Fh (lm := 0) (off := 0) hc4 Bz AS) ?_
   refine Ao Cu hO 0 (.lit _ _ _) FQ (bk hk fun c5 hc5 hk => ?_)
   refine pX hc5 CT AS ?_
   refine DG (.agg [_, _]) (Fh (lm := 0) (off := 0) hc5 Bz AS) ?_
   refine Rh (ps := [(0, (.agg [_, _])), (1, (.agg [_, _]))]) ([c4, c5] : List Ay) CT AS Di (Bc (D8 (α := Ay) c4) (Bc (D8 (α := Ay) c5) (Cs))) ?_
   refine pA (.tl 2 (A9 0 ([c4, c5] : List Ay))) (pg (Ak (gr (br (gr ?_)))))
   replace hO := A8.FK hO lk.length ([c4, c5] : List Ay)
   replace hk := an hk; subst hk; exact CP hO (G8 (xs := ([c4, c5] : List Ay)) hlk 0) (Cp (.tl 2 (A9 0 ([c4, c5] : List Ay))) Bh)
  refine B7 (gn (sr (Ao Cu hO 0 (.lit _ _ _) FQ (bk hk fun c7 hc7 hk => ?_))))
  refine pX hc7 CT AS ?_
  refine DG (.agg [_, _]) (Fh (lm := 0) (off := 0) hc7 Bz AS) ?_
  refine Rh (ps := [(0, (.agg [_, _]))]) ([c7] : List Ay) CT AS Di (Bc (D8 (α := Ay) c7) (Cs)) ?_
  refine pA (.tl 1 (A9 0 ([c7] : List Ay))) (pg (Ak (br (gr ?_))))
  replace hO := A8.FK hO lk.length ([c7] : List Ay)
  replace hk := an hk; subst hk; exact CP hO (G8 (xs := ([c7] : List Ay)) hlk 0) (Cp (.tl 1 (A9 0 ([c7] : List Ay))) Bh)
 refine sr (AR ?_)
 refine pA (.bool _) (pg (B1 hk ?_ ?_)) <;> intro hk
 ·refine AX (Hz [1,3,5,7,9,11,12,15,16,18] [_,_,_,_,_,_,_,_,_,_] ?_)
  refine Ao Cu hO 0 (.lit _ _ _) FQ ?_
  refine Rh (ps := [(0, (.int _ _)), (1, (.int _ _)), (2, (.int _ _)), (3, (.int _ _))]) ([(1:Int), (0:Int), (3:Int), (2:Int)] : List Int) HV Ey dF (Bc (EM _ _) (Bc (EM _ _) (Bc (EM _ _) (Bc (EM _ _) (Cs))))) ?_
  refine pM (.int _ _) (bk hk fun c9 hc9 hk => ?_)
  refine lL hc9 HV Ey ?_
  refine DG (.int _ _) (IU (lm := 0) (off := 0) hc9 B5) (bk hk fun c10 hc10 hk => ?_)
  refine pX hc10 CT AS ?_
  refine DG (.agg [_, _]) (Fh (lm := 0) (off := 0) hc10 Bz AS) ?_
  refine Rh (ps := [(0, (.agg [_, _]))]) ([c10] : List Ay) CT AS Di (Bc (D8 (α := Ay) c10) (Cs)) ?_
  refine pA (.tl 1 (A9 0 ([c10] : List Ay))) (pg (Ak (br (gr ?_))))
  replace hO := A8.FK hO lk.length ([c10] : List Ay)
  replace hk := an hk; subst hk; exact CP hO (G8 (xs := ([c10] : List Ay)) hlk 0) (Cp (.tl 1 (A9 0 ([c10] : List Ay))) Bh)
 refine B7 (bn (gn (sr (pA (.tl 0 []) (pg (Ak ?_))))))
 replace hk := an hk; subst hk; exact CP hO (NW (k := 0) Ay) (Cp (.tl 0 []) Bh)
def Px (v6 : Ay) (v9 : (List Ay)) : Int → Option (Int ⊕ Bool) := fun s =>
 (bif decide (s < (v9.length : Int)) then ((Aa v9 s).bind fun c11 => (bif ((c11.A0 == v6.A0) && ((c11.B9 == v6.B9) && true)) then ((some true).map Sum.inr) else some (.inl (AV (s + 1))))) else ((some false).map Sum.inr))
def fP (aN0 : Az) (aA1 : AW) (aB2 : AW) : Option Bool :=
 ((YK aA1.A0 aA1.Way).bind fun v4 => ((dA aN0 v4).bind fun v5 => ((YK aB2.A0 (AV (0 - aB2.Way))).bind fun v6 => ((Aa aN0.A1 v5.1).bind fun c8 => ((fR c8 v5.2).bind fun v9 => (AP (Px v6 v9) ((0:Int))))))))
theorem Yi (hk : fP aN0 aA1 aB2 = some r) (hlk : 0 < lk.length := by simp) : Ai ah hh 88 [.agg [A7 l1 0 aN0.A3, A7 l2 m3 aN0.A1], .agg [iv aA1.A0, iv aA1.Way], .agg [iv aB2.A0, iv aB2.Way]] H lk = some (.bool r, H) := by
 refine AA Tryz.func88 rfl Tryz.ntmps88 Tryz.results88 rfl rfl fun hO => ?_
 unfold fP at hk
 refine sr (Ax (cs := [_, _]) hO B2 (fun b1 G hO => ?_))
 refine Ax (cs := [_, _]) hO BY (fun b2 G hO => ?_)
 refine Ax (cs := [_, _]) hO BY (fun b3 G hO => ?_)
 refine pA (.bool _) (pg (AX ?_))
 refine Hz [1,3,5,7,9,11,12,14,16,18,20,22] [_,_,_,_,_,_,_,_,_,_,_,_] ?_
 refine Bj hO 2 [_, _] CL B2 ?_
 refine Ao EG hO 1 (.int _ _) B5 ?_
 refine Ao Ek hO 1 (.int _ _) B5 (bk hk fun v4 hv4 hk => ?_)
 refine AL (fun _ => KE hv4) (bk hk fun v5 hv5 hk => ?_)
 refine AL (fun _ => Tq hv5) ?_
 refine pM (.EZ [_, _]) ?_
 refine MA (.int _ _) ?_
 refine MA (.int _ _) ?_
 refine pA (.int _ _) ?_
 refine pA (.int _ _) (pg (sr ?_))
 refine Ao EG hO 0 (.int _ _) B5 ?_
 refine Ao Ek hO 0 (.int _ _) B5 ?_
 refine pU (bk hk fun v6 hv6 hk => ?_)
 refine AL (fun _ => KE hv6) (Bd hO AS Di (fun b7 G hO => ?_))
 refine CM (xs := [_, _]) hO 0 AS rfl (fun G hO => pg (AX (sr ?_)))
 refine Ao Cv hO 3 (.lit _ _ _) Gj ?_
 refine pM (.int _ _) (bk hk fun c8 hc8 hk => ?_)
 refine pX hc8 Gq BL ?_
 refine DG (.agg [_, _, _]) (Fh (lm := m3) (off := 0) hc8 HI BL) ?_
 refine pM (.int _ _) (bk hk fun v9 hv9 hk => ?_)
 refine AL (fun _ => Tr hv9) ?_
 refine BC HK ?_
 refine pM (.int _ _) (pg (CE ?_))
 refine AJ (F := Px v6 v9) (fun s S' => ∃ J G, A8 H G [.B6 b7 (.cells 2 [iv v6.A0, iv v6.B9])] ∧ S' = ⟨Aq [(9, .ptr b7 0),(34, A7 0 0 v9),(35, iv (v9.length : Int)),(36, iv s)] J, G⟩) hk ⟨_, _, (pk hO [0]), sh⟩ ?_
 rintro x10 _ y1 ⟨J, G, hO, rfl⟩ hk hx1
 refine sr (AR (pg (AX (B1 hk ?_ ?_)))) <;> intro hk
 ·refine B7 (gn (AX (CE (sr (bk hk fun c11 hc11 hk => pX hc11 CT AS ?_)))))
  refine DG (.agg [_, _]) (Fh (lm := 0) (off := 0) hc11 Bz AS) (Bd hO AS Di (fun b12 G hO => ?_))
  refine CM (xs := [_, _]) hO 0 AS rfl (fun G hO => pg (sr ?_))
  refine Bj hO 0 [_, _] Bz AS ?_
  refine Bj hO 1 [_, _] Bz AS ?_
  refine dE TK (Qn (Qo _ _ _) (Qn (Qo _ _ _) (rfl))) (pg (B1 hk ?_ ?_)) <;> intro hk
  ·refine sr (pA (.bool _) (pg (Ak (br (gr (gr (br (gr (have hk := lx hx1 hk; ?_)))))))))
   cases hk; exact AU hO
  refine B7 (bn (gn (Da (AR ?_))))
  refine pM (.int _ _) (pg ?_)
  cases hk; exact ⟨_, rfl, _, _, (pk hO [1]), sh⟩
 refine Eo (ge (ge (be (gn (have hk := lx hx1 hk; sr (pA (.bool _) (pg (Ak ?_))))))))
 cases hk; exact AU hO
def Ga (aN0 : Az) (aT1 : AB) : (Int × Int × Int × Int) → Option ((Int × Int × Int × Int) ⊕ Bool) := fun s =>
 (bif decide (s.2.2.2 < (aT1.AF.length : Int)) then ((Aa aT1.AF s.2.2.2).bind fun c12 => ((YI c12.A0 (0:Int) (AV ((aN0.A3.length : Int) - 1))).bind fun v14 => ((bif ((!v14 || ((c12.Way != 1) && (c12.Way != (-1:Int)))) || decide (s.2.2.1 ≥ aT1.AI)) then some true else ((fP aN0 c12 ({ A0 := s.1, Way := s.2.1 } : AW)).bind fun v16 => some (!v16))).bind fun t15 => (bif t15 then ((some false).map Sum.inr) else ((Aa aN0.A3 c12.A0).bind fun c17 => some (.inl (c12.A0, c12.Way, AV (s.2.2.1 + c17.BN), AV (s.2.2.2 + 1)))))))) else ((some (decide (s.2.2.1 ≥ aT1.AI))).map Sum.inr))
def Xa (aN0 : Az) (aT1 : AB) : Option Bool :=
 ((fO aN0 aT1.A5).bind fun v3 => ((bif !v3 then some true else ((YI aT1.AI (1:Int) (100000:Int)).bind fun v5 => some (!v5))).bind fun t4 => (bif (t4 || decide ((aT1.AF.length : Int) > 200)) then some false else ((aM aN0 aT1.A5).bind fun v6 => (AP (Ga aN0 aT1) (aT1.A5.A0, aT1.A5.Way, v6, (0:Int)))))))
theorem YH (hk : Xa aN0 aT1 = some r) (hlk : 0 < lk.length := by simp) : Ai ah hh 47 [.agg [A7 l1 0 aN0.A3, A7 l2 m3 aN0.A1], .agg [iv aT1.A5.A0, iv aT1.A5.At, iv aT1.A5.Way, iv aT1.AI, A7 l4 0 aT1.AF]] H lk = some (.bool r, H) := by
 refine AA Tryz.func47 rfl Tryz.ntmps47 Tryz.results47 rfl rfl fun hO => ?_
 unfold Xa at hk
 refine sr (Ax (cs := [_, _]) hO B2 (fun b1 G hO => ?_))
 refine Ax (cs := [_, _, _, _, _]) hO Bt (fun b2 G hO => ?_)
 refine pA (.bool _) (pg (AX (sr ?_)))
 refine Bj hO 1 [_, _] CL B2 ?_
 refine pF CR ?_
 refine Bj hO 0 [_, _, _] J8 EC (bk hk fun v3 hv3 hk => ?_)
 refine AL (fun _ => Yh hv3) ?_
 refine pU ?_
 refine pM (.bool _) (bk hk fun t4 ht hk => ?_)
 refine AQ (l1 := [_, _, _, _, _]) (fun S' => ∃ J, S' = ⟨Aq [(2, .ptr b1 0),(3, .ptr b2 0),(19, .bool t4)] J, G⟩) ?_ ?_
 ·refine bc (b := !v3) ?_ ?_ <;> intro hg
  ·replace hk := ct hg ht
   repeat refine Bu hg ?_
   refine EJ hg (.bool _) ?_
   cases hk; exact pE ⟨_, sh⟩
  replace hk := cf hg ht
  refine Ae hg (pF GC (Ae hg ?_))
  refine GG hO 0 (.int _ _) B5 (Ae hg (bk hk fun v5 hv5 hk => ?_))
  refine AL (fun _ => JF hv5) (Ae hg ?_)
  refine pU ?_
  refine EI hg (.bool _) ?_
  cases hk; exact pE ⟨_, sh⟩
 rintro _ ⟨J, rfl⟩
 refine pM (.bool _) ?_
 refine AQ (l1 := [_, _, _, _, _]) (fun S' => ∃ J, S' = ⟨Aq [(2, .ptr b1 0),(3, .ptr b2 0),(25, .bool (t4 || decide ((aT1.AF.length : Int) > 200)))] J, G⟩) ?_ ?_
 ·refine bc (b := t4) ?_ ?_ <;> intro hg
  ·repeat refine Bu hg ?_
   refine EJ hg (.bool _) ?_
   exact pE ⟨_, St.Aq _ ⟨rfl, rfl, by rw [hg]; rfl, trivial⟩⟩
  refine Ae hg (pF DD (Ae hg ?_))
  refine GG hO 0 (.lit _ _ _) IY (Ae hg ?_)
  refine BC K1 (Ae hg ?_)
  refine AR ?_
  refine EI hg (.bool _) ?_
  exact pE ⟨_, St.Aq _ ⟨rfl, rfl, by rw [hg]; rfl, trivial⟩⟩
 rintro _ ⟨J, rfl⟩
 refine pg (B1 hk ?_ ?_) <;> intro hk
 ·refine sr (pA (.bool _) (pg (Ak (gr ?_))))
  cases hk; exact AU hO
 refine B7 (gn (sr (Bj hO 1 [_, _] CL B2 ?_)))
 refine pF CR ?_
 refine Bj hO 0 [_, _, _] J8 EC (bk hk fun v6 hv6 hk => ?_)
 refine AL (fun _ => Po hv6) ?_
 refine pA (.int _ _) (pg (sr ?_))
 refine pF CR ?_
 refine Ao DT hO 0 (.int _ _) B5 ?_
 refine pF CR ?_
 refine Ao DU hO 0 (.int _ _) B5 ?_
 refine HS [_, _] G4 VP (Bd hO BY G4 (fun b7 G hO => ?_))
 refine CM (xs := [_, _]) hO 0 BY rfl (fun G hO => pg (AX (sr ?_)))
 refine Ao DD hO 1 (.lit _ _ _) IY ?_
 refine BC K1 ?_
 refine pM (.int _ _) (pg (CE ?_))
 refine AJ (F := Ga aN0 aT1) (fun s S' => ∃ J G, A8 H G [.B6 b7 (.cells 2 [iv s.1, iv s.2.1]), .B6 b2 (.cells 5 [iv aT1.A5.A0, iv aT1.A5.At, iv aT1.A5.Way, iv aT1.AI, A7 l4 0 aT1.AF]), .B6 b1 (.cells 2 [A7 l1 0 aN0.A3, A7 l2 m3 aN0.A1])] ∧ S' = ⟨Aq [(2, .ptr b1 0),(3, .ptr b2 0),(5, iv s.2.2.1),(6, .ptr b7 0),(38, A7 l4 0 aT1.AF),(39, iv (aT1.AF.length : Int)),(40, iv s.2.2.2)] J, G⟩) hk ⟨_, _, hO, sh⟩ ?_
 rintro ⟨x8, x9, x10, x11⟩ _ y1 ⟨J, G, hO, rfl⟩ hk hx1
 refine sr (AR (pg (AX (B1 hk ?_ ?_)))) <;> intro hk
 ·refine B7 (gn (AX (CE (sr (bk hk fun c12 hc12 hk => pX hc12 GB BY ?_)))))
  refine DG (.agg [_, _]) (Fh (lm := 0) (off := 0) hc12 Gk BY) (Bd hO BY G4 (fun b13 G hO => ?_))
  refine CM (xs := [_, _]) hO 0 BY rfl (fun G hO => pg (AX (sr ?_)))
  refine Ao EG hO 0 (.int _ _) B5 ?_
  refine Ao C0 hO 3 (.lit _ _ _) Ei ?_
  refine BC IZ ?_
  refine AR (bk hk fun v14 hv14 hk => ?_)
  refine AL (fun _ => JF hv14) ?_
  refine pU ?_
  refine pM (.bool _) ?_
  refine AQ (l1 := [_, _, _, _, _, _, _, _, _]) (fun S' => ∃ J, S' = ⟨Aq [(2, .ptr b1 0),(3, .ptr b2 0),(5, iv x10),(6, .ptr b7 0),(8, .ptr b13 0),(38, A7 l4 0 aT1.AF),(39, iv (aT1.AF.length : Int)),(40, iv x11),(61, .bool (!v14 || ((c12.Way != 1) && (c12.Way != (-1:Int)))))] J, G⟩) ?_ ?_
  ·refine bc (b := !v14) ?_ ?_ <;> intro hg
   ·repeat refine Bu hg ?_
    refine K4 (K4 (K4 (Bu hg (EJ hg (.bool _) ?_))))
    exact pE ⟨_, St.Aq _ ⟨rfl, rfl, rfl, rfl, rfl, rfl, rfl, rfl, by rw [hg]; rfl, trivial⟩⟩
   refine Ae hg (pF Ek (Ae hg ?_))
   refine GG hO 0 (.int _ _) B5 (Ae hg ?_)
   refine AR (Ae hg ?_)
   refine pM (.bool _) ?_
   refine AQ (l1 := [_, _, _, _]) (fun S' => ∃ J, S' = ⟨Aq [(2, .ptr b1 0),(3, .ptr b2 0),(5, iv x10),(6, .ptr b7 0),(8, .ptr b13 0),(38, A7 l4 0 aT1.AF),(39, iv (aT1.AF.length : Int)),(40, iv x11),(52, .bool (!v14)),(60, .bool ((c12.Way != 1) && (c12.Way != (-1:Int))))] J, G⟩) ?_ ?_
   ·refine bc (b := (c12.Way != 1)) (fun hg2 => ?_) (fun hg2 => ?_)
    ·refine Ae hg2 (pF Ek (Ae hg2 ?_))
     refine GG hO 0 (.int _ _) B5 (Ae hg2 ?_)
     refine AR (Ae hg ?_)
     refine EJ hg2 (.bool _) ?_
     exact pE ⟨_, St.Aq _ ⟨rfl, rfl, rfl, rfl, rfl, rfl, rfl, rfl, rfl, by rw [hg2]; rfl, trivial⟩⟩
    refine Bu hg2 (Bu hg2 (Bu hg2 (Ae hg (EI hg2 (.bool _) ?_))))
    exact pE ⟨_, St.Aq _ ⟨rfl, rfl, rfl, rfl, rfl, rfl, rfl, rfl, rfl, by rw [hg2]; rfl, trivial⟩⟩
   rintro _ ⟨J, rfl⟩
   refine EI hg (.bool _) ?_
   exact pE ⟨_, St.Aq _ ⟨rfl, rfl, rfl, rfl, rfl, rfl, rfl, rfl, by rw [hg]; rfl, trivial⟩⟩
  rintro _ ⟨J, rfl⟩
  refine pM (.bool _) ?_
  refine AQ (l1 := [_, _, _, _, _]) (fun S' => ∃ J, S' = ⟨Aq [(2, .ptr b1 0),(3, .ptr b2 0),(5, iv x10),(6, .ptr b7 0),(8, .ptr b13 0),(38, A7 l4 0 aT1.AF),(39, iv (aT1.AF.length : Int)),(40, iv x11),(67, .bool ((!v14 || ((c12.Way != 1) && (c12.Way != (-1:Int)))) || decide (x10 ≥ aT1.AI)))] J, G⟩) ?_ ?_
  ·refine bc (b := (!v14 || ((c12.Way != 1) && (c12.Way != (-1:Int))))) ?_ ?_ <;> intro hg
   ·repeat refine Bu hg ?_
    refine EJ hg (.bool _) ?_
    exact pE ⟨_, St.Aq _ ⟨rfl, rfl, rfl, rfl, rfl, rfl, rfl, rfl, by rw [hg]; rfl, trivial⟩⟩
   refine Ae hg (pM (.int _ _) (Ae hg ?_))
   refine pF GC (Ae hg ?_)
   refine GG hO 2 (.int _ _) B5 (Ae hg ?_)
   refine AR ?_
   refine EI hg (.bool _) ?_
   exact pE ⟨_, St.Aq _ ⟨rfl, rfl, rfl, rfl, rfl, rfl, rfl, rfl, by rw [hg]; rfl, trivial⟩⟩
  rintro _ ⟨J, rfl⟩
  refine pM (.bool _) (bk hk fun t15 ht hk => ?_)
  refine AQ (l1 := [_, _, _, _, _, _]) (fun S' => ∃ J, S' = ⟨Aq [(2, .ptr b1 0),(3, .ptr b2 0),(5, iv x10),(6, .ptr b7 0),(8, .ptr b13 0),(38, A7 l4 0 aT1.AF),(39, iv (aT1.AF.length : Int)),(40, iv x11),(74, .bool t15)] J, G⟩) ?_ ?_
  ·refine bc (b := ((!v14 || ((c12.Way != 1) && (c12.Way != (-1:Int)))) || decide (x10 ≥ aT1.AI))) ?_ ?_ <;> intro hg
   ·replace hk := ct hg ht
    repeat refine Bu hg ?_
    refine EJ hg (.bool _) ?_
    cases hk; exact pE ⟨_, sh⟩
   replace hk := cf hg ht
   refine Ae hg (Bj hO 3 [_, _] CL B2 (Ae hg ?_))
   refine Bj hO 0 [_, _] Gk BY (Ae hg ?_)
   refine Bj hO 1 [_, _] Gk BY (Ae hg (bk hk fun v16 hv16 hk => ?_))
   refine AL (fun _ => Yi hv16) (Ae hg ?_)
   refine pU ?_
   refine EI hg (.bool _) ?_
   cases hk; exact pE ⟨_, sh⟩
  rintro _ ⟨J, rfl⟩
  refine pg (B1 hk ?_ ?_) <;> intro hk
  ·refine sr (pA (.bool _) (pg (Ak (gr (br (gr (gr (br (gr (have hk := lx hx1 hk; ?_))))))))))
   cases hk; exact AU hO
  refine B7 (gn (sr (pM (.int _ _) ?_)))
  refine Ao C0 hO 3 (.lit _ _ _) Ei ?_
  refine Ao EG hO 0 (.int _ _) B5 (bk hk fun c17 hc17 hk => ?_)
  refine pX hc17 GP C2 ?_
  refine pF Ci ?_
  refine DG (.int _ _) (IU (lm := 0) (off := 1) hc17 B5) ?_
  refine AR ?_
  refine pA (.int _ _) (pg (Da ?_))
  refine Bj hO 0 [_, _] Gk BY ?_
  refine CM (xs := [_, _]) hO 1 BY rfl (fun G hO => pE (bn (gn (Da ?_))))
  refine AR ?_
  refine pM (.int _ _) (pg ?_)
  cases hk; exact ⟨_, rfl, _, _, (pk hO [1, 2, 3]), sh⟩
 refine Eo (ge (ge (be (gn (have hk := lx hx1 hk; sr (pM (.int _ _) ?_))))))
 refine Ao GC hO 1 (.int _ _) B5 ?_
 refine AR ?_
 refine pA (.bool _) (pg (Ak ?_))
 cases hk; exact AU hO
def iS (aN0 : Az) (aLies1 : List Int) (aT2 : AB) (aFar3 : Int) : Option Bool :=
 ((eQ aN0 aLies1).bind fun v3 => ((bif v3 then ((Xa aN0 aT2).bind fun v5 => some v5) else some false).bind fun t4 => ((bif t4 then ((YI aFar3 (0:Int) (10000:Int)).bind fun v7 => some v7) else some false).bind fun t6 => some t6)))
theorem Xu (hk : iS aN0 aLies1 aT2 aFar3 = some r) (hlk : 0 < lk.length := by simp) : Ai ah hh 23 [.agg [A7 l1 0 aN0.A3, A7 l2 m3 aN0.A1], A7 l4 0 aLies1, .agg [iv aT2.A5.A0, iv aT2.A5.At, iv aT2.A5.Way, iv aT2.AI, A7 l5 0 aT2.AF], iv aFar3] H lk = some (.bool r, H) := by
 refine AA Tryz.func23 rfl Tryz.ntmps23 Tryz.results23 rfl rfl fun hO => ?_
 unfold iS at hk
 refine sr (Ax (cs := [_, _]) hO B2 (fun b1 G hO => ?_))
 refine Ax (cs := [_, _, _, _, _]) hO Bt (fun b2 G hO => ?_)
 refine pA (.bool _) (pg (sr ?_))
 refine Bj hO 1 [_, _] CL B2 ?_
 refine pM (.lit _ _ _) (bk hk fun v3 hv3 hk => ?_)
 refine AL (fun _ => YG hv3) ?_
 refine pM (.bool _) (bk hk fun t4 ht hk => ?_)
 refine AQ (l1 := [_, _, _, _]) (fun S' => ∃ J, S' = ⟨Aq [(3, iv aFar3),(16, .bool t4)] J, G⟩) ?_ ?_
 ·refine bc (b := v3) ?_ ?_ <;> intro hg
  ·replace hk := ct hg ht
   refine Ae hg (Bj hO 1 [_, _] CL B2 (Ae hg ?_))
   refine Bj hO 0 [_, _, _, _, _] Eh Bt (Ae hg (bk hk fun v5 hv5 hk => ?_))
   refine AL (fun _ => YH hv5) ?_
   refine EJ hg (.bool _) ?_
   cases hk; exact pE ⟨_, sh⟩
  replace hk := cf hg ht
  refine Bu hg (Bu hg (Bu hg (EI hg (.bool _) ?_)))
  cases hk; exact pE ⟨_, sh⟩
 rintro _ ⟨J, rfl⟩
 refine pM (.bool _) (bk hk fun t6 ht hk => ?_)
 refine AQ (l1 := [_, _, _]) (fun S' => ∃ J, S' = ⟨Aq [(20, .bool t6)] J, G⟩) ?_ ?_
 ·refine bc (b := t4) ?_ ?_ <;> intro hg
  ·replace hk := ct hg ht
   refine Ae hg (pM (.int _ _) (Ae hg (bk hk fun v7 hv7 hk => ?_)))
   refine AL (fun _ => JF hv7) ?_
   refine EJ hg (.bool _) ?_
   cases hk; exact pE ⟨_, sh⟩
  replace hk := cf hg ht
  refine Bu hg (Bu hg (EI hg (.bool _) ?_))
  cases hk; exact pE ⟨_, sh⟩
 rintro _ ⟨J, rfl⟩
 refine pA (.bool _) (pg (Ak ?_))
 cases hk; exact AU hO
def N2 (aT1 : AB) (x5 : List AW) : Option AB :=
 some ({ A5 := aT1.A5, AI := aT1.AI, AF := x5 } : AB)
def I3 (aN0 : Az) (aT1 : AB) : (Int × (List AW) × Int) → Option ((Int × (List AW) × Int) ⊕ AB) := fun s =>
 (bif decide (s.2.2 < (aT1.AF.length : Int)) then ((Aa aT1.AF s.2.2).bind fun c13 => (bif decide (s.1 ≥ aT1.AI) then ((N2 aT1 s.2.1).map Sum.inr) else ((JU 16 s.2.1 ([c13] : List AW)).bind fun z15 => ((Aa aN0.A3 c13.A0).bind fun c16 => some (.inl (AV (s.1 + c16.BN), z15, AV (s.2.2 + 1))))))) else ((N2 aT1 s.2.1).map Sum.inr))
def ZV (aN0 : Az) (aT1 : AB) : Option AB :=
 ((aM aN0 aT1.A5).bind fun v4 => (AP (I3 aN0 aT1) (v4, ([] : List AW), (0:Int))))
theorem MI (hk : ZV aN0 aT1 = some r) (hlk : 0 < lk.length := by simp) : ∃ v H1, Ai ah hh 49 [.agg [A7 l1 0 aN0.A3, A7 l2 m3 aN0.A1], .agg [iv aT1.A5.A0, iv aT1.A5.At, iv aT1.A5.Way, iv aT1.AI, A7 l4 0 aT1.AF]] H lk = some (v, H1) ∧ HM H r v H1 := by
 refine BA Tryz.func49 rfl Tryz.ntmps49 Tryz.results49 rfl rfl ?_
 have hO := A8.nil H
 unfold ZV at hk
 refine sr (Ax (cs := [_, _]) hO B2 (fun b1 G hO => ?_))
 refine Ax (cs := [_, _, _, _, _]) hO Bt (fun b2 G hO => Bd hO Bt Qf (fun b3 G hO => pg (sr ?_)))
 refine Bj hO 2 [_, _] CL B2 ?_
 refine pF CR ?_
 refine Bj hO 1 [_, _, _] J8 EC (bk hk fun v4 hv4 hk => ?_)
 refine AL (fun _ => Po hv4) ?_
 refine pA (.int _ _) (pg (sr ?_))
 refine pA (.tl 0 []) (pg ?_)
 refine Fq (fun S' => ∃ x5 o5 J G, N2 aT1 x5 = some r ∧ Nz o5 ∧ A8 H G [.B6 b3 (.cells 5 [iv 0, iv 0, iv 0, iv 0, (.tl 0 [])]), .B6 b2 (.cells 5 [iv aT1.A5.A0, iv aT1.A5.At, iv aT1.A5.Way, iv aT1.AI, A7 l4 0 aT1.AF]), .own o5 lk.length 2 x5.length (A9 0 x5)] ∧ S' = ⟨Aq [(3, .ptr b2 0),(4, .ptr b3 0),(6, o5)] J, G⟩) ?_ ?_
 ·refine sr (Ao DD hO 1 (.lit _ _ _) IY ?_)
  refine BC K1 ?_
  refine pM (.int _ _) (pg (CE ?_))
  refine AJ (F := I3 aN0 aT1) (fun s S' => ∃ o10 J G, Nz o10 ∧ A8 H G [.B6 b3 (.cells 5 [iv 0, iv 0, iv 0, iv 0, (.tl 0 [])]), .B6 b2 (.cells 5 [iv aT1.A5.A0, iv aT1.A5.At, iv aT1.A5.Way, iv aT1.AI, A7 l4 0 aT1.AF]), .B6 b1 (.cells 2 [A7 l1 0 aN0.A3, A7 l2 m3 aN0.A1]), .own o10 lk.length 2 s.2.1.length (A9 0 s.2.1)] ∧ S' = ⟨Aq [(2, .ptr b1 0),(3, .ptr b2 0),(4, .ptr b3 0),(5, iv s.1),(6, o10),(14, A7 l4 0 aT1.AF),(15, iv (aT1.AF.length : Int)),(16, iv s.2.2)] J, G⟩) hk ⟨(.tl 0 []), _, _, Nz.nil, (A8.pick (A8.FK hO lk.length ([] : List AW)) [1, 2, 3, 0] (by decide) rfl), sh⟩ ?_
  rintro ⟨x9, x10, x12⟩ _ y1 ⟨o10, J, G, hno10, hO, rfl⟩ hk hx1
  refine sr (AR (pg (AX (B1 hk ?_ ?_)))) <;> intro hk
  ·refine B7 (gn (AX (CE (sr (bk hk fun c13 hc13 hk => pX hc13 GB BY ?_)))))
   refine DG (.agg [_, _]) (Fh (lm := 0) (off := 0) hc13 Gk BY) (Bd hO BY G4 (fun b14 G hO => ?_))
   refine CM (xs := [_, _]) hO 0 BY rfl (fun G hO => pg (AX (sr ?_)))
   refine pM (.int _ _) ?_
   refine Ao GC hO 2 (.int _ _) B5 ?_
   refine AR (pg (B1 hk ?_ ?_)) <;> intro hk
   ·refine Eo (ge (bo rfl (ge (ge (be (gn (have hk := lx hx1 hk; ?_)))))))
    exact ⟨x10, o10, _, _, hk, hno10, (pk hO [1, 2, 4]), sh⟩
   refine B7 (gn (sr (pM o10 ?_)))
   refine Bj hO 0 [_, _] Gk BY ?_
   refine Rh (ps := [(0, (.agg [_, _]))]) ([c13] : List AW) GB BY G4 (Bc (D8 (α := AW) c13) (Cs)) (bk hk fun z15 hz15 hk => ?_)
   refine gN (xs := x10) hO 4 hz15 (Qv ([c13] : List AW)) GB BY X7 G4 GB rfl (fun o15 G hno15 hO => ?_)
   replace hno15 := hno15 hno10
   refine pA o15 (pg (Da ?_))
   refine pM (.int _ _) ?_
   refine Ao C0 hO 3 (.lit _ _ _) Ei ?_
   refine Ao EG hO 0 (.int _ _) B5 (bk hk fun c16 hc16 hk => ?_)
   refine pX hc16 GP C2 ?_
   refine pF Ci ?_
   refine DG (.int _ _) (IU (lm := 0) (off := 1) hc16 B5) ?_
   refine AR ?_
   refine pA (.int _ _) (pE (bn (gn (Da ?_))))
   refine AR ?_
   refine pM (.int _ _) (pg ?_)
   cases hk; exact ⟨_, rfl, o15, _, _, hno15, (pk hO [1, 2, 3, 4]), sh⟩
  exact Eo (ge (ge (be (gn (have hk := lx hx1 hk; ⟨x10, o10, _, _, hk, hno10, (pk hO [0, 1, 3]), sh⟩)))))
 rintro _ ⟨x5, o5, J, G, hk, hno5, hO, rfl⟩
 refine sr (pM o5 ?_)
 refine pF DD ?_
 have hc7 := CF hO (j := 2) rfl
 refine CM (xs := [_]) hO 1 XH rfl (fun G hO => ?_) (h3 := hc7.1) (h6 := EP hc7.2)
 refine pg (sr (Bj hO 1 [_, _, _, _, _] Eh Bt ?_))
 have hc8 := CF hO (j := 2) rfl
 refine CM (xs := [_, _, _, _, _]) hO 0 Bt rfl (fun G hO => ?_) (h6 := (AE rfl (AE rfl (AE rfl (AE rfl (AE hc8.2 DM))))))
 refine pg (Ak ?_)
 replace hk := an hk; subst hk; exact Ez hO (ET (Ad (c1 := [_, _, _]) (Jd (α := CG) aT1.A5) (Ad (c1 := [_]) (Bo aT1.AI) (La hno5 hlk 2)))) (Cb hO 0 [_, _, _, _, _] Eh Bt Bh)
def N3 (v4 : (Int × Int)) (c5 : AO) : Option (Ay × Int × Int) :=
 ((fR c5 v4.2).bind fun v7 => ((Aa v7 (0:Int)).bind fun c8 => some (c8, (0:Int), v4.1)))
def Xb (aN0 : Az) (aLies1 : List Int) (aE2 : Ay) : Option (Ay × Int × Int) :=
 ((dA aN0 aE2).bind fun v4 => ((Aa aN0.A1 v4.1).bind fun c5 => (bif (c5.Kind == 1) then some (aE2, (1:Int), v4.1) else (bif (c5.Kind == 3) then ((Aa aLies1 v4.1).bind fun c9 => (bif (c9 == 0) then some (aE2, (2:Int), v4.1) else (bif (v4.2 == 0) then ((Aa aLies1 v4.1).bind fun c10 => ((Aa c5.Ends c10).bind fun c11 => some (c11, (0:Int), v4.1))) else ((Aa aLies1 v4.1).bind fun c12 => (bif (v4.2 != c12) then some (aE2, (3:Int), v4.1) else (N3 v4 c5)))))) else (N3 v4 c5)))))
theorem Th (hk : Xb aN0 aLies1 aE2 = some r) (hlk : 0 < lk.length := by simp) : Ai ah hh 52 [.agg [A7 l1 0 aN0.A3, A7 l2 m3 aN0.A1], A7 l4 0 aLies1, .agg [iv aE2.A0, iv aE2.B9]] H lk = some (.EZ [.agg [iv r.1.A0, iv r.1.B9], iv r.2.1, iv r.2.2], H) := by
 refine AA Tryz.func52 rfl Tryz.ntmps52 Tryz.results52 rfl rfl fun hO => ?_
 unfold Xb at hk
 refine sr (Ax (cs := [_, _]) hO B2 (fun b1 G hO => ?_))
 refine Ax (cs := [_, _]) hO AS (fun b2 G hO => Bd hO AS Di (fun b3 G hO => ?_))
 refine pA (.int _ _) ?_
 refine pA (.int _ _) (pg (sr ?_))
 refine Bj hO 2 [_, _] CL B2 ?_
 refine Bj hO 1 [_, _] Bz AS (bk hk fun v4 hv4 hk => ?_)
 refine AL (fun _ => Tq hv4) ?_
 refine pM (.EZ [_, _]) ?_
 refine MA (.int _ _) ?_
 refine MA (.int _ _) ?_
 refine pA (.int _ _) ?_
 refine pA (.int _ _) (pg (sr ?_))
 refine Ao Cv hO 2 (.lit _ _ _) Gj ?_
 refine pM (.int _ _) (bk hk fun c5 hc5 hk => ?_)
 refine pX hc5 Gq BL ?_
 refine DG (.agg [_, _, _]) (Fh (lm := m3) (off := 0) hc5 HI BL) (Bd hO BL J7 (fun b6 G hO => ?_))
 refine CM (xs := [_, _, _]) hO 0 BL rfl (fun G hO => pg (AX (sr ?_)))
 refine Ao DF hO 0 (.int _ _) B5 ?_
 refine AR (pg (B1 hk ?_ ?_)) <;> intro hk
 ·refine sr (Bj hO 2 [_, _] Bz AS ?_)
  refine pM (.int _ _) ?_
  refine CM (xs := [_, _]) hO 1 AS rfl (fun G hO => ?_)
  refine pA (.int _ _) ?_
  refine pA (.int _ _) (pg (Ak (gr ?_)))
  replace hk := an hk; subst hk; exact CP hO (DZ (n := 3) (Ac (BU (n := 2) (Ac (AD _ _) (Ac (AD _ _) (C8)))) (Ac (AD _ _) (Ac (AD _ _) (C8))))) (Cb hO 1 [_, _] Bz AS (Cp (.int _ _) (Cp (.int _ _) Bh)))
 refine B7 (gn (Fq (fun S' => ∃  (J : Nat → V) (G : A4), N3 v4 c5 = some r ∧ A8 H G [.B6 b6 (.cells 3 [iv c5.Kind, .str c5.Name, A7 m3 0 c5.Ends]), .B6 b3 (.cells 2 [iv 0, iv 0])] ∧ S' = ⟨Aq [(6, .ptr b3 0),(9, iv v4.1),(10, iv v4.2),(11, .ptr b6 0)] J, G⟩) ?_ ?_))
 ·refine sr (Ao DF hO 0 (.int _ _) B5 ?_)
  refine AR (pg (B1 hk ?_ ?_)) <;> intro hk
  ·refine AX (sr (pM (.lit _ _ _) ?_))
   refine pM (.int _ _) (bk hk fun c9 hc9 hk => ?_)
   refine pX hc9 HV Ey ?_
   refine DG (.int _ _) (IU (lm := 0) (off := 0) hc9 B5) ?_
   refine AR (pg (B1 hk ?_ ?_)) <;> intro hk
   ·refine sr (Bj hO 2 [_, _] Bz AS ?_)
    refine pM (.int _ _) ?_
    refine CM (xs := [_, _]) hO 1 AS rfl (fun G hO => ?_)
    refine pA (.int _ _) ?_
    refine pA (.int _ _) (pg (Ak (gr (gr ?_))))
    replace hk := an hk; subst hk; exact CP hO (DZ (n := 3) (Ac (BU (n := 2) (Ac (AD _ _) (Ac (AD _ _) (C8)))) (Ac (AD _ _) (Ac (AD _ _) (C8))))) (Cb hO 1 [_, _] Bz AS (Cp (.int _ _) (Cp (.int _ _) Bh)))
   refine B7 (gn (AX (sr (pM (.int _ _) ?_))))
   refine AR (pg (B1 hk ?_ ?_)) <;> intro hk
   ·refine AX (Hz [1,3,5,7,9,11,12,15,17,18,20,22] [_,_,_,_,_,_,_,_,_,_,_,_] ?_)
    refine Ao Cu hO 0 (.lit _ _ _) FQ ?_
    refine pM (.lit _ _ _) ?_
    refine pM (.int _ _) (bk hk fun c10 hc10 hk => ?_)
    refine pX hc10 HV Ey ?_
    refine DG (.int _ _) (IU (lm := 0) (off := 0) hc10 B5) (bk hk fun c11 hc11 hk => ?_)
    refine pX hc11 CT AS ?_
    refine DG (.agg [_, _]) (Fh (lm := 0) (off := 0) hc11 Bz AS) ?_
    refine pM (.int _ _) ?_
    refine CM (xs := [_, _]) hO 1 AS rfl (fun G hO => ?_)
    refine pA (.int _ _) ?_
    refine pA (.int _ _) (pg (Ak (gr (gr ?_))))
    replace hk := an hk; subst hk; exact CP hO (DZ (n := 3) (Ac (BU (n := 2) (Ac (AD _ _) (Ac (AD _ _) (C8)))) (Ac (AD _ _) (Ac (AD _ _) (C8))))) (Cb hO 1 [_, _] Bz AS (Cp (.int _ _) (Cp (.int _ _) Bh)))
   refine B7 (gn (sr (pM (.int _ _) ?_)))
   refine pM (.lit _ _ _) ?_
   refine pM (.int _ _) (bk hk fun c12 hc12 hk => ?_)
   refine pX hc12 HV Ey ?_
   refine DG (.int _ _) (IU (lm := 0) (off := 0) hc12 B5) ?_
   refine AR (pg (B1 hk ?_ ?_)) <;> intro hk
   ·refine sr (Bj hO 2 [_, _] Bz AS ?_)
    refine pM (.int _ _) ?_
    refine CM (xs := [_, _]) hO 1 AS rfl (fun G hO => ?_)
    refine pA (.int _ _) ?_
    refine pA (.int _ _) (pg (Ak (gr ?_)))
    replace hk := an hk; subst hk; exact CP hO (DZ (n := 3) (Ac (BU (n := 2) (Ac (AD _ _) (Ac (AD _ _) (C8)))) (Ac (AD _ _) (Ac (AD _ _) (C8))))) (Cb hO 1 [_, _] Bz AS (Cp (.int _ _) (Cp (.int _ _) Bh)))
   exact B7 (gn (⟨_, _, hk, (pk hO [0, 1]), sh⟩))
  exact B7 (gn (⟨_, _, hk, (pk hO [0, 1]), sh⟩))
 rintro _ ⟨J, G, hk, hO, rfl⟩
 refine sr (Bj hO 0 [_, _, _] HI BL ?_)
 refine pM (.int _ _) (bk hk fun v7 hv7 hk => ?_)
 refine AL (fun _ => Tr hv7) ?_
 refine pA (.lit _ _ _) (pg (sr ?_))
 refine pM (.lit _ _ _) (bk hk fun c8 hc8 hk => ?_)
 refine pX hc8 CT AS ?_
 refine DG (.agg [_, _]) (Fh (lm := 0) (off := 0) hc8 Bz AS) ?_
 refine pM (.int _ _) ?_
 refine CM (xs := [_, _]) hO 1 AS rfl (fun G hO => ?_)
 refine pA (.int _ _) ?_
 refine pA (.int _ _) (pg (Ak ?_))
 replace hk := an hk; subst hk; exact CP hO (DZ (n := 3) (Ac (BU (n := 2) (Ac (AD _ _) (Ac (AD _ _) (C8)))) (Ac (AD _ _) (Ac (AD _ _) (C8))))) (Cb hO 1 [_, _] Bz AS (Cp (.int _ _) (Cp (.int _ _) Bh)))
def Pn (aN0 : Az) (aLies1 : List Int) (aT2 : AB) : (Int × Int × Int) → Option ((Int × Int × Int) ⊕ Bool) := fun s =>
 (bif decide (s.2.2 < (aT2.AF.length : Int)) then ((Aa aT2.AF s.2.2).bind fun c7 => ((YK c7.A0 c7.Way).bind fun v9 => ((Xb aN0 aLies1 v9).bind fun v10 => ((bif (v10.2.1 != 0) then some true else ((YK s.1 (AV (0 - s.2.1))).bind fun v13 => some (!((v10.1.A0 == v13.A0) && ((v10.1.B9 == v13.B9) && true))))).bind fun t12 => (bif t12 then ((some false).map Sum.inr) else some (.inl (c7.A0, c7.Way, AV (s.2.2 + 1)))))))) else ((some true).map Sum.inr))
def eS (aN0 : Az) (aLies1 : List Int) (aT2 : AB) : Option Bool :=
 (AP (Pn aN0 aLies1 aT2) (aT2.A5.A0, aT2.A5.Way, (0:Int)))
theorem YJ (hk : eS aN0 aLies1 aT2 = some r) (hlk : 0 < lk.length := by simp) : Ai ah hh 50 [.agg [A7 l1 0 aN0.A3, A7 l2 m3 aN0.A1], A7 l4 0 aLies1, .agg [iv aT2.A5.A0, iv aT2.A5.At, iv aT2.A5.Way, iv aT2.AI, A7 l5 0 aT2.AF]] H lk = some (.bool r, H) := by
 refine AA Tryz.func50 rfl Tryz.ntmps50 Tryz.results50 rfl rfl fun hO => ?_
 unfold eS at hk
 refine sr (Ax (cs := [_, _]) hO B2 (fun b1 G hO => ?_))
 refine Ax (cs := [_, _, _, _, _]) hO Bt (fun b2 G hO => ?_)
 refine pA (.bool _) (pg (sr ?_))
 refine pF CR ?_
 refine Ao DT hO 0 (.int _ _) B5 ?_
 refine pF CR ?_
 refine Ao DU hO 0 (.int _ _) B5 ?_
 refine HS [_, _] G4 VP (Bd hO BY G4 (fun b3 G hO => ?_))
 refine CM (xs := [_, _]) hO 0 BY rfl (fun G hO => pg (AX (sr ?_)))
 refine Ao DD hO 1 (.lit _ _ _) IY ?_
 refine BC K1 ?_
 refine pM (.int _ _) (pg (CE ?_))
 refine AJ (F := Pn aN0 aLies1 aT2) (fun s S' => ∃ J G, A8 H G [.B6 b3 (.cells 2 [iv s.1, iv s.2.1]), .B6 b1 (.cells 2 [A7 l1 0 aN0.A3, A7 l2 m3 aN0.A1])] ∧ S' = ⟨Aq [(1, A7 l4 0 aLies1),(3, .ptr b1 0),(7, .ptr b3 0),(21, A7 l5 0 aT2.AF),(22, iv (aT2.AF.length : Int)),(23, iv s.2.2)] J, G⟩) hk ⟨_, _, (pk hO [0, 2]), sh⟩ ?_
 rintro ⟨x4, x5, x6⟩ _ y1 ⟨J, G, hO, rfl⟩ hk hx1
 refine sr (AR (pg (AX (B1 hk ?_ ?_)))) <;> intro hk
 ·refine B7 (gn (AX (CE (sr (bk hk fun c7 hc7 hk => pX hc7 GB BY ?_)))))
  refine DG (.agg [_, _]) (Fh (lm := 0) (off := 0) hc7 Gk BY) (Bd hO BY G4 (fun b8 G hO => ?_))
  refine CM (xs := [_, _]) hO 0 BY rfl (fun G hO => pg (AX ?_))
  refine Hz [1,3,5,7,9,11,13,14,16,18,20,22,25,26,28,30] [_,_,_,_,_,_,_,_,_,_,_,_,_,_,_,_] ?_
  refine Bj hO 2 [_, _] CL B2 ?_
  refine pM (.lit _ _ _) ?_
  refine Ao EG hO 0 (.int _ _) B5 ?_
  refine Ao Ek hO 0 (.int _ _) B5 (bk hk fun v9 hv9 hk => ?_)
  refine AL (fun _ => KE hv9) (bk hk fun v10 hv10 hk => ?_)
  refine AL (fun _ => Th hv10) ?_
  refine pM (.EZ [_, _, _]) ?_
  refine MA (.agg [_, _]) ?_
  refine MA (.int _ _) ?_
  refine MA (.int _ _) (Bd hO AS Di (fun b11 G hO => ?_))
  refine CM (xs := [_, _]) hO 0 AS rfl (fun G hO => ?_)
  refine pA (.int _ _) ?_
  refine pA (.int _ _) (pg (AX (AX ?_)))
  refine Hz [0,2,4,7,9,11,13,15,17,19,20,22] [_,_,_,_,_,_,_,_,_,_,_,_] ?_
  refine pM (.int _ _) ?_
  refine AR ?_
  refine pM (.bool _) (bk hk fun t12 ht hk => ?_)
  refine AQ (l1 := [_, _, _, _, _, _, _, _, _]) (fun S' => ∃ J, S' = ⟨Aq [(1, A7 l4 0 aLies1),(3, .ptr b1 0),(7, .ptr b3 0),(9, .ptr b8 0),(21, A7 l5 0 aT2.AF),(22, iv (aT2.AF.length : Int)),(23, iv x6),(50, .bool t12)] J, G⟩) ?_ ?_
  ·refine bc (b := (v10.2.1 != 0)) ?_ ?_ <;> intro hg
   ·replace hk := ct hg ht
    repeat refine Bu hg ?_
    refine EJ hg (.bool _) ?_
    cases hk; exact pE ⟨_, sh⟩
   replace hk := cf hg ht
   refine Ae hg (Bj hO 0 [_, _] Bz AS (Ae hg ?_))
   refine pF EG (Ae hg ?_)
   refine GG hO 2 (.int _ _) B5 (Ae hg ?_)
   refine pF Ek (Ae hg ?_)
   refine GG hO 2 (.int _ _) B5 (Ae hg ?_)
   refine pU (Ae hg (bk hk fun v13 hv13 hk => ?_))
   refine AL (fun _ => KE hv13) (Ae hg ?_)
   refine gQ TK (Qn (Qo _ _ _) (Qn (Qo _ _ _) (rfl))) ?_
   refine EI hg (.bool _) ?_
   cases hk; exact pE ⟨_, sh⟩
  rintro _ ⟨J, rfl⟩
  refine pg (B1 hk ?_ ?_) <;> intro hk
  ·refine sr (pA (.bool _) (pg (Ak (gr (br (gr (gr (br (gr (have hk := lx hx1 hk; ?_))))))))))
   cases hk; exact AU hO
  refine B7 (gn (Da (Bj hO 1 [_, _] Gk BY ?_)))
  refine CM (xs := [_, _]) hO 2 BY rfl (fun G hO => pE (bn (gn (Da ?_))))
  refine AR ?_
  refine pM (.int _ _) (pg ?_)
  cases hk; exact ⟨_, rfl, _, _, (pk hO [2, 3]), sh⟩
 refine Eo (ge (ge (be (gn (have hk := lx hx1 hk; sr (pA (.bool _) (pg (Ak ?_))))))))
 cases hk; exact AU hO
def cW (aN0 : Az) (aE1 : Ay) : Option CG :=
 (bif (aE1.B9 == 0) then some ({ A0 := aE1.A0, At := 0, Way := (1:Int) } : CG) else ((Aa aN0.A3 aE1.A0).bind fun c4 => some ({ A0 := aE1.A0, At := c4.BN, Way := (-1:Int) } : CG)))
theorem YL (hk : cW aN0 aE1 = some r) (hlk : 0 < lk.length := by simp) : Ai ah hh 54 [.agg [A7 l1 0 aN0.A3, A7 l2 m3 aN0.A1], .agg [iv aE1.A0, iv aE1.B9]] H lk = some (.agg [iv r.A0, iv r.At, iv r.Way], H) := by
 refine AA Tryz.func54 rfl Tryz.ntmps54 Tryz.results54 rfl rfl fun hO => ?_
 unfold cW at hk
 refine sr (Ax (cs := [_, _]) hO B2 (fun b1 G hO => ?_))
 refine Ax (cs := [_, _]) hO AS (fun b2 G hO => Bd hO EC TJ (fun b3 G hO => pg (AX (sr ?_))))
 refine Ao IN hO 1 (.int _ _) B5 ?_
 refine AR (pg (B1 hk ?_ ?_)) <;> intro hk
 ·refine sr (Ao Fi hO 1 (.int _ _) B5 ?_)
  refine HS [_, _, _] TJ cH ?_
  refine CM (xs := [_, _, _]) hO 0 EC rfl (fun G hO => pg (Ak (gr ?_)))
  replace hk := an hk; subst hk; exact CP hO (BU (n := 2) (Ac (AD _ _) (Ac (AD _ _) (Ac (AD _ _) (C8))))) (Cb hO 0 [_, _, _] J8 EC Bh)
 refine B7 (gn (AX (Hz [1,3,5,7,9,11,13,15,17,18,20] [_,_,_,_,_,_,_,_,_,_,_] ?_)))
 refine Ao Fi hO 1 (.int _ _) B5 ?_
 refine Ao C0 hO 2 (.lit _ _ _) Ei ?_
 refine Ao Fi hO 1 (.int _ _) B5 (bk hk fun c4 hc4 hk => ?_)
 refine pX hc4 GP C2 ?_
 refine pF Ci ?_
 refine DG (.int _ _) (IU (lm := 0) (off := 1) hc4 B5) ?_
 refine HS [_, _, _] TJ cH ?_
 refine CM (xs := [_, _, _]) hO 0 EC rfl (fun G hO => pg (Ak ?_))
 replace hk := an hk; subst hk; exact CP hO (BU (n := 2) (Ac (AD _ _) (Ac (AD _ _) (Ac (AD _ _) (C8))))) (Cb hO 0 [_, _, _] J8 EC Bh)
def eU (aN0 : Az) (aT1 : AB) : Option Int :=
 ((ZV aN0 aT1).bind fun v3 => some (v3.AF.length : Int))
theorem YM (hk : eU aN0 aT1 = some r) (hlk : 0 < lk.length := by simp) : Ai ah hh 55 [.agg [A7 l1 0 aN0.A3, A7 l2 m3 aN0.A1], .agg [iv aT1.A5.A0, iv aT1.A5.At, iv aT1.A5.Way, iv aT1.AI, A7 l4 0 aT1.AF]] H lk = some (iv r, H) := by
 refine AA Tryz.func55 rfl Tryz.ntmps55 Tryz.results55 rfl rfl fun hO => ?_
 unfold eU at hk
 refine sr (Ax (cs := [_, _]) hO B2 (fun b1 G hO => ?_))
 refine Ax (cs := [_, _, _, _, _]) hO Bt (fun b2 G hO => ?_)
 refine pA (.int _ _) (pg (sr ?_))
 refine Bj hO 1 [_, _] CL B2 ?_
 refine Bj hO 0 [_, _, _, _, _] Eh Bt (bk hk fun v3 hv3 hk => ?_)
 refine IW hO (fun _ => MI hv3) (fun u4 F4 G hO => Bd hO Bt Qf (fun b5 G hO => ?_))
 refine Ri hO 0 1 Bt rfl (fun G hO => pg (sr ?_))
 refine pF DD ?_
 refine Wq Io hO 0 1 IY (fun u6 fs6 hs6 => ?_)
 refine gR hs6 K1 ?_
 refine pA (.int _ _) (pg (Ak ?_))
 cases hk; exact AU hO
def Pp (aPiece1 : Int) (x3 : Int) (x4 : Int) : Option BD :=
 some ({ A0 := aPiece1, GV := x3, To := x4 } : BD)
def ZW (aN0 : Az) (aPiece1 : Int) (aWay2 : Int) (aA3 : Int) (aB4 : Int) : Option BD :=
 (bif (aWay2 == (-1:Int)) then ((Aa aN0.A3 aPiece1).bind fun c5 => ((Aa aN0.A3 aPiece1).bind fun c6 => (Pp aPiece1 (AV (c5.BN - aB4)) (AV (c6.BN - aA3))))) else (Pp aPiece1 aA3 aB4))
theorem YN (hk : ZW aN0 aPiece1 aWay2 aA3 aB4 = some r) (hlk : 0 < lk.length := by simp) : Ai ah hh 57 [.agg [A7 l1 0 aN0.A3, A7 l2 m3 aN0.A1], iv aPiece1, iv aWay2, iv aA3, iv aB4] H lk = some (.agg [iv r.A0, iv r.GV, iv r.To], H) := by
 refine AA Tryz.func57 rfl Tryz.ntmps57 Tryz.results57 rfl rfl fun hO => ?_
 unfold ZW at hk
 refine sr (Ax (cs := [_, _]) hO B2 (fun b1 G hO => Bd hO Gr Rs (fun b2 G hO => pg ?_)))
 refine Fq (fun S' => ∃ x3 x4 J G, Pp aPiece1 x3 x4 = some r ∧ A8 H G [.B6 b2 (.cells 3 [iv 0, iv 0, iv 0])] ∧ S' = ⟨Aq [(1, iv aPiece1),(3, iv x3),(4, iv x4),(10, .ptr b2 0)] J, G⟩) ?_ ?_
 ·refine sr (pM (.int _ _) ?_)
  refine AR (pg (B1 hk ?_ ?_)) <;> intro hk
  ·refine sr (pM (.int _ _) ?_)
   refine pA (.int _ _) (pg (sr ?_))
   refine Ao C0 hO 1 (.lit _ _ _) Ei ?_
   refine pM (.int _ _) (bk hk fun c5 hc5 hk => ?_)
   refine pX hc5 GP C2 ?_
   refine pF Ci ?_
   refine DG (.int _ _) (IU (lm := 0) (off := 1) hc5 B5) ?_
   refine pM (.int _ _) ?_
   refine AR ?_
   refine pA (.int _ _) (pg (Da ?_))
   refine Ao C0 hO 1 (.lit _ _ _) Ei ?_
   refine pM (.int _ _) (bk hk fun c6 hc6 hk => ?_)
   refine pX hc6 GP C2 ?_
   refine pF Ci ?_
   refine DG (.int _ _) (IU (lm := 0) (off := 1) hc6 B5) ?_
   refine pM (.int _ _) ?_
   refine AR ?_
   refine pA (.int _ _) (pg ?_)
   exact ⟨AV (c5.BN - aB4), AV (c6.BN - aA3), _, _, hk, (pk hO [0]), sh⟩
  exact B7 (gn (⟨aA3, aB4, _, _, hk, (pk hO [0]), sh⟩))
 rintro _ ⟨x3, x4, J, G, hk, hO, rfl⟩
 refine sr (pM (.int _ _) ?_)
 refine pM (.int _ _) ?_
 refine pM (.int _ _) ?_
 refine HS [_, _, _] Rs iK ?_
 refine CM (xs := [_, _, _]) hO 0 Gr rfl (fun G hO => pg (Ak ?_))
 replace hk := an hk; subst hk; exact CP hO (BU (n := 2) (Ac (AD _ _) (Ac (AD _ _) (Ac (AD _ _) (C8))))) (Cb hO 0 [_, _, _] ZB Gr Bh)
def Il (aN0 : Az) (x15 : Int) (x16 : Int) (x17 : Int) (x18 : Int) (x19 : Int) (x20 : Int) (x21 : Int) (x22 : List AW) (x24 : List BD) : Option BF :=
 ((ZV aN0 ({ A5 := ({ A0 := x18, At := x19, Way := x20 } : CG), AI := x21, AF := x22 } : AB)).bind fun v26 => some ({ Code := x15, MT := x16, AO := x17, AB := ({ A5 := v26.A5, AI := v26.AI, AF := v26.AF } : AB), Dp := x24 } : BF))
def Mp (aN0 : Az) (x36 : Int) (x37 : Int) (x38 : Int) (x39 : Int) (x40 : Int) (x59 : List AW) (x61 : List BD) (x63 : Int) : Option ((Int × Int × Int × Int × Int × (List AW) × (List BD)) ⊕ BF) :=
 ((aM aN0 ({ A0 := x37, At := x38, Way := x39 } : CG)).bind fun v64 => ((ZW aN0 x37 x39 v64 (AV (v64 + x63))).bind fun v65 => ((JU 24 x61 ([v65] : List BD)).bind fun z66 => ((ZV aN0 ({ A5 := ({ A0 := x37, At := AV (x38 + (AV (x63 * x39))), Way := x39 } : CG), AI := x40, AF := x59 } : AB)).bind fun v68 => some (.inl (AV (x36 + x63), v68.A5.A0, v68.A5.At, v68.A5.Way, v68.AI, v68.AF, z66))))))
def G7 (aN0 : Az) (aLies1 : List Int) (aFar3 : Int) : (Int × Int × Int × Int × Int × (List AW) × (List BD)) → Option ((Int × Int × Int × Int × Int × (List AW) × (List BD)) ⊕ BF) := fun s =>
 (bif decide (s.1 < aFar3) then ((aL aN0 ({ A0 := s.2.1, At := s.2.2.1, Way := s.2.2.2.1 } : CG)).bind fun v45 => (bif (v45 == 0) then ((YK s.2.1 s.2.2.2.1).bind fun v47 => ((Xb aN0 aLies1 v47).bind fun v48 => (bif (v48.2.1 != 0) then ((Il aN0 v48.2.1 s.1 v48.2.2 s.2.1 s.2.2.1 s.2.2.2.1 s.2.2.2.2.1 s.2.2.2.2.2.1 s.2.2.2.2.2.2).map Sum.inr) else ((cW aN0 v48.1).bind fun v52 => ((JU 16 ([({ A0 := s.2.1, Way := s.2.2.2.1 } : AW)] : List AW) s.2.2.2.2.2.1).bind fun z53 => ((eU aN0 ({ A5 := v52, AI := s.2.2.2.2.1, AF := z53 } : AB)).bind fun v56 => (bif decide (v56 > 200) then ((Il aN0 (6:Int) s.1 v48.2.2 s.2.1 s.2.2.1 s.2.2.2.1 s.2.2.2.2.1 s.2.2.2.2.2.1 s.2.2.2.2.2.2).map Sum.inr) else some (.inl (s.1, v52.A0, v52.At, v52.Way, s.2.2.2.2.1, z53, s.2.2.2.2.2.2))))))))) else (bif decide (v45 > (AV (aFar3 - s.1))) then (Mp aN0 s.1 s.2.1 s.2.2.1 s.2.2.2.1 s.2.2.2.2.1 s.2.2.2.2.2.1 s.2.2.2.2.2.2 (AV (aFar3 - s.1))) else (Mp aN0 s.1 s.2.1 s.2.2.1 s.2.2.2.1 s.2.2.2.2.1 s.2.2.2.2.2.1 s.2.2.2.2.2.2 v45)))) else ((Il aN0 0 s.1 (-1:Int) s.2.1 s.2.2.1 s.2.2.2.1 s.2.2.2.2.1 s.2.2.2.2.2.1 s.2.2.2.2.2.2).map Sum.inr))
def iT (aN0 : Az) (aLies1 : List Int) (aT2 : AB) (aFar3 : Int) : Option BF :=
 ((ZV aN0 aT2).bind fun v4 => ((eS aN0 aLies1 aT2).bind fun v13 => (bif !v13 then some ({ Code := (4:Int), MT := 0, AO := (-1:Int), AB := ({ A5 := v4.A5, AI := v4.AI, AF := v4.AF } : AB), Dp := ([] : List BD) } : BF) else (AP (G7 aN0 aLies1 aFar3) (0, v4.A5.A0, v4.A5.At, v4.A5.Way, v4.AI, v4.AF, ([] : List BD))))))
theorem Xv (hk : iT aN0 aLies1 aT2 aFar3 = some r) (hlk : 0 < lk.length := by simp) : ∃ v H1, Ai ah hh 24 [.agg [A7 l1 0 aN0.A3, A7 l2 m3 aN0.A1], A7 l4 0 aLies1, .agg [iv aT2.A5.A0, iv aT2.A5.At, iv aT2.A5.Way, iv aT2.AI, A7 l5 0 aT2.AF], iv aFar3] H lk = some (v, H1) ∧ HM H r v H1 := by
 refine BA Tryz.func24 rfl Tryz.ntmps24 Tryz.results24 rfl rfl ?_
 have hO := A8.nil H
 unfold iT at hk
 refine sr (Ax (cs := [_, _]) hO B2 (fun b1 G hO => ?_))
 refine Ax (cs := [_, _, _, _, _]) hO Bt (fun b2 G hO => Bd hO Cc LX (fun b3 G hO => pg (sr ?_)))
 refine Bj hO 2 [_, _] CL B2 ?_
 refine Bj hO 1 [_, _, _, _, _] Eh Bt (bk hk fun v4 hv4 hk => ?_)
 refine IW hO (fun _ => MI hv4) (fun u5 F5 G hO => ?_)
 replace hO : A8 H G (Ck [] _ ((v4.A5, v4.AI, v4.AF) : CG × Int × (List AW)) _ :: [.B6 b3 (.cells 9 [iv 0, iv 0, iv 0, iv 0, iv 0, iv 0, iv 0, (.tl 0 []), (.tl 0 [])]), .B6 b2 (.cells 5 [iv aT2.A5.A0, iv aT2.A5.At, iv aT2.A5.Way, iv aT2.AI, A7 l5 0 aT2.AF]), .B6 b1 (.cells 2 [A7 l1 0 aN0.A3, A7 l2 m3 aN0.A1])]) := hO
 obtain ⟨cs6, Fb6, he, hP⟩ := A8.LV hO
 clear hO; subst he; have hO := hP; clear hP
 obtain ⟨cs7, Fb7, he, hP⟩ := A8.LV hO
 clear hO; subst he; have hO := hP; clear hP
 obtain ⟨u8, rfl⟩ := A8.WW hO
 have hc10 := DP hO (j := 0) rfl
 refine HS [iv 0, iv 0, iv (-1:Int), iv v4.A5.A0, iv v4.A5.At, iv v4.A5.Way, iv v4.AI, u8, (.tl 0 [])] LX ZK ?_ (ps := [(2, iv (-1:Int)), (3, .agg [iv v4.A5.A0, iv v4.A5.At, iv v4.A5.Way, iv v4.AI, u8])]) (h2 := (Dx (i := 2) (off := 2) (sz := 1) (v := iv (-1:Int)) (ce := [iv (-1:Int)]) rfl (AE rfl DM) (Dx (i := 3) (off := 3) (sz := 5) (v := .agg [iv v4.A5.A0, iv v4.A5.At, iv v4.A5.Way, iv v4.AI, u8]) (ce := [iv v4.A5.A0, iv v4.A5.At, iv v4.A5.Way, iv v4.AI, u8]) rfl (AE rfl (AE rfl (AE rfl (AE rfl (AE hc10.2 DM))))) rfl)))
 refine Bd hO Cc LX (fun b11 G hO => ?_)
 have hc12 := DP hO (j := 1) rfl
 refine Jv (xs := [_, _, _, _, _, _, _, _, _]) [_, _, _, _, _, _, _, _, _] hO 0 Cc rfl (fun G hO => ?_) (h6 := (AE rfl (AE rfl (AE rfl (AE rfl (AE rfl (AE rfl (AE rfl (AE hc12.2 (AE rfl DM))))))))))
 refine pg (AX (sr (Bj hO 4 [_, _] CL B2 ?_)))
 refine pM (.lit _ _ _) ?_
 refine Bj hO 3 [_, _, _, _, _] Eh Bt (bk hk fun v13 hv13 hk => ?_)
 refine AL (fun _ => YJ hv13) ?_
 refine pU (pg (B1 hk ?_ ?_)) <;> intro hk
 ·refine sr (pF J9 ?_)
  refine Jv (xs := [_]) [_, _, _, _, _, _, _, _, _] hO 0 Ey rfl (fun G hO => pg (sr ?_))
  refine Bj hO 0 [_, _, _, _, _, _, _, _, _] GA Cc ?_
  have hc14 := DP hO (j := 1) rfl
  refine Jv (xs := [_, _, _, _, _, _, _, _, _]) [_, _, _, _, _, _, _, _, _] hO 2 Cc rfl (fun G hO => ?_) (h6 := (AE rfl (AE rfl (AE rfl (AE rfl (AE rfl (AE rfl (AE rfl (AE hc14.2 (AE rfl DM))))))))))
  refine pg (Ak (gr ?_))
  replace hk := an hk; subst hk; exact Ez hO (Ew (Ad (c1 := [_]) (Bo (4:Int)) (Ad (c1 := [_]) (Bo 0) (Ad (c1 := [_]) (Bo (-1:Int)) (Ad (c1 := [_, _, _, _, _]) (ET (Ad (c1 := [_, _, _]) (Jd (α := CG) v4.A5) (Ad (c1 := [_]) (Bo v4.AI) (GQ 1)))) (LZ BD)))))) (Cb hO 2 [_, _, _, _, _, _, _, _, _] GA Cc Bh)
 refine B7 (gn (Fq (fun S' => ∃ x15 x16 x17 x18 x19 x20 x21 x22 x24 o24 o22 F23 J G, Il aN0 x15 x16 x17 x18 x19 x20 x21 x22 x24 = some r ∧ Nz o24 ∧ A8 H G [An H lk.length F23 x22 o22, .own o24 lk.length 3 x24.length (A9 0 x24), .B6 b11 (.cells 9 [iv x15, iv x16, iv x17, iv x18, iv x19, iv x20, iv x21, o22, o24]), .B6 b3 (.cells 9 [iv 0, iv 0, iv 0, iv 0, iv 0, iv 0, iv 0, (.tl 0 []), (.tl 0 [])]), .B6 b1 (.cells 2 [A7 l1 0 aN0.A3, A7 l2 m3 aN0.A1])] ∧ S' = ⟨Aq [(4, .ptr b1 0),(8, .ptr b3 0),(9, .ptr b11 0)] J, G⟩) ?_ ?_))
 ·refine CE (AJ (F := G7 aN0 aLies1 aFar3) (fun s S' => ∃ o43 o41 F42 J G, Nz o43 ∧ A8 H G [An H lk.length F42 s.2.2.2.2.2.1 o41, .own o43 lk.length 3 s.2.2.2.2.2.2.length (A9 0 s.2.2.2.2.2.2), .B6 b11 (.cells 9 [iv 0, iv s.1, iv (-1:Int), iv s.2.1, iv s.2.2.1, iv s.2.2.2.1, iv s.2.2.2.2.1, o41, o43]), .B6 b3 (.cells 9 [iv 0, iv 0, iv 0, iv 0, iv 0, iv 0, iv 0, (.tl 0 []), (.tl 0 [])]), .B6 b1 (.cells 2 [A7 l1 0 aN0.A3, A7 l2 m3 aN0.A1])] ∧ S' = ⟨Aq [(1, A7 l4 0 aLies1),(3, iv aFar3),(4, .ptr b1 0),(8, .ptr b3 0),(9, .ptr b11 0)] J, G⟩) hk ⟨(.tl 0 []), u8, Fb7, _, _, Nz.nil, (A8.pick (A8.FK (A8.dO (d := lk.length) hO 1) lk.length ([] : List BD)) [2, 0, 1, 3, 5] (by decide) rfl), sh⟩ ?_)
  rintro ⟨x36, x37, x38, x39, x40, x41, x43⟩ _ y1 ⟨o43, o41, F42, J, G, hno43, hO, rfl⟩ hk hx1
  refine AX (sr (Ao Gl hO 2 (.int _ _) B5 ?_))
  refine pM (.int _ _) ?_
  refine AR (pg (B1 hk ?_ ?_)) <;> intro hk
  ·refine B7 (gn (CE (sr (Bj hO 4 [_, _] CL B2 ?_))))
   refine pF DE ?_
   refine pF CR ?_
   refine Bj hO 2 [_, _, _] J8 EC (bk hk fun v45 hv45 hk => ?_)
   refine AL (fun _ => Tg hv45) ?_
   refine pA (.int _ _) (pg (AX (sr ?_)))
   refine pM (.int _ _) ?_
   refine AR (pg (B1 hk ?_ ?_)) <;> intro hk
   ·refine sr (pF DE ?_)
    refine pF CR ?_
    refine Bj hO 2 [_, _, _] J8 EC (Bd hO EC TJ (fun b46 G hO => ?_))
    refine CM (xs := [_, _, _]) hO 0 EC rfl (fun G hO => pg (AX ?_))
    refine Hz [1,3,5,7,9,11,13,14,16,18,20,22,25,26,28,30] [_,_,_,_,_,_,_,_,_,_,_,_,_,_,_,_] ?_
    refine Bj hO 5 [_, _] CL B2 ?_
    refine pM (.lit _ _ _) ?_
    refine Ao DT hO 0 (.int _ _) B5 ?_
    refine Ao DU hO 0 (.int _ _) B5 (bk hk fun v47 hv47 hk => ?_)
    refine AL (fun _ => KE hv47) (bk hk fun v48 hv48 hk => ?_)
    refine AL (fun _ => Th hv48) ?_
    refine pM (.EZ [_, _, _]) ?_
    refine MA (.agg [_, _]) ?_
    refine MA (.int _ _) ?_
    refine MA (.int _ _) (Bd hO AS Di (fun b49 G hO => ?_))
    refine CM (xs := [_, _]) hO 0 AS rfl (fun G hO => ?_)
    refine pA (.int _ _) ?_
    refine pA (.int _ _) (pg (AX (sr ?_)))
    refine pM (.int _ _) ?_
    refine AR (pg (B1 hk ?_ ?_)) <;> intro hk
    ·refine sr (pM (.int _ _) ?_)
     refine pF J9 ?_
     refine Jv (xs := [_]) [_, _, _, _, _, _, _, _, _] hO 4 Ey rfl (fun G hO => pg (sr ?_))
     refine pM (.int _ _) ?_
     refine pF LY ?_
     refine Jv (xs := [_]) [_, _, _, _, _, _, _, _, _] hO 4 Ey rfl (fun G hO => pg (Eo ?_))
     refine ge (ge (bo rfl (ge (be (gn (have hk := lx hx1 hk; ?_))))))
     exact ⟨v48.2.1, x36, v48.2.2, x37, x38, x39, x40, x41, x43, o43, o41, F42, _, _, hk, hno43, (pk hO [2, 3, 4, 5, 6]), sh⟩
    refine B7 (gn (sr (pF DE ?_)))
    refine Bj hO 4 [_, _, _, _, _] Eh Bt (Bd hO Bt Qf (fun b50 G hO => ?_))
    have hc51 := Vf hO (j := 3) rfl
    refine CM (xs := [_, _, _, _, _]) hO 0 Bt rfl (fun G hO => ?_) (h6 := (AE rfl (AE rfl (AE rfl (AE rfl (AE hc51.2 DM))))))
    refine pg (sr (Bj hO 7 [_, _] CL B2 ?_))
    refine Bj hO 1 [_, _] Bz AS (bk hk fun v52 hv52 hk => ?_)
    refine AL (fun _ => YL hv52) ?_
    refine pF CR ?_
    refine CM (xs := [_, _, _]) hO 0 EC rfl (fun G hO => pg (sr ?_))
    refine Ao DT hO 2 (.int _ _) B5 ?_
    refine Ao DU hO 2 (.int _ _) B5 ?_
    refine HS [_, _] G4 VP ?_
    refine Rh (ps := [(0, (.agg [_, _]))]) ([({ A0 := x37, Way := x39 } : AW)] : List AW) GB BY G4 (Bc (D8 (α := AW) ({ A0 := x37, Way := x39 } : AW)) (Cs)) ?_
    refine Ao DD hO 0 o41 IY ?_
    replace hO := A8.FK hO lk.length ([({ A0 := x37, Way := x39 } : AW)] : List AW)
    refine bk hk fun z53 hz53 hk => gN (xs := ([({ A0 := x37, Way := x39 } : AW)] : List AW)) hO 0 hz53 (Vh hO (j := 4) rfl) GB BY X7 G4 GB rfl (fun o53 G hno53 hO => ?_)
    refine pF DD ?_
    have hc55 := CF hO (j := 0) rfl
    refine CM (xs := [_]) hO 1 XH rfl (fun G hO => ?_) (h3 := hc55.1) (h6 := EP hc55.2)
    refine pg (AX (sr (Bj hO 8 [_, _] CL B2 ?_)))
    refine Bj hO 1 [_, _, _, _, _] Eh Bt (bk hk fun v56 hv56 hk => ?_)
    obtain ⟨lw57, hw57⟩ := WZ hO 0 (lk.length + 1)
    refine AL (vs := [(.agg [_, _]), (.agg [_, _, _, _, _])]) (caps := []) (fun _ => YM hv56) ?_ (h3 := (BB rfl (BB (QL (Cg rfl (Cg rfl (Cg rfl (Cg rfl (Cg (hw57 5) QO)))))) Eg)))
    refine AR (pg (B1 hk ?_ ?_)) <;> intro hk
    ·refine sr (pF J9 ?_)
     refine Jv (xs := [_]) [_, _, _, _, _, _, _, _, _] hO 6 Ey rfl (fun G hO => pg (sr ?_))
     refine pM (.int _ _) ?_
     refine pF LY ?_
     refine Jv (xs := [_]) [_, _, _, _, _, _, _, _, _] hO 6 Ey rfl (fun G hO => pg (Eo ?_))
     refine ge (ge (bo rfl (ge (be (gn (have hk := lx hx1 hk; ?_))))))
     exact ⟨(6:Int), x36, v48.2.2, x37, x38, x39, x40, x41, x43, o43, o41, F42, _, _, hk, hno43, (pk hO [4, 5, 6, 7, 8]), sh⟩
    refine B7 (gn (sr (Bj hO 1 [_, _, _, _, _] Eh Bt ?_)))
    refine pF DE ?_
    have hc58 := CF hO (j := 0) rfl
    refine Jv (xs := [_, _, _, _, _]) [_, _, _, _, _, _, _, _, _] hO 6 Bt rfl (fun G hO => ?_) (h6 := (AE rfl (AE rfl (AE rfl (AE rfl (AE hc58.2 DM))))))
    refine pg (Eo (ge (be (gn ?_))))
    cases hk; exact ⟨_, rfl, o43, o53, (Bf.own o53 lk.length 2 z53.length (A9 0 z53)).DC, _, _, hno43, (A8.pick (A8.jG (xs := z53) hO 0) [0, 5, 6, 7, 8] (by decide) rfl), sh⟩
   refine B7 (gn (Fq (fun S' => ∃ x59 x61 x63 o61 o59 F60 J G, Mp aN0 x36 x37 x38 x39 x40 x59 x61 x63 = some y1 ∧ Nz o61 ∧ A8 H G [An H lk.length F60 x59 o59, .own o61 lk.length 3 x61.length (A9 0 x61), .B6 b11 (.cells 9 [iv 0, iv x36, iv (-1:Int), iv x37, iv x38, iv x39, iv x40, o59, o61]), .B6 b3 (.cells 9 [iv 0, iv 0, iv 0, iv 0, iv 0, iv 0, iv 0, (.tl 0 []), (.tl 0 [])]), .B6 b1 (.cells 2 [A7 l1 0 aN0.A3, A7 l2 m3 aN0.A1])] ∧ S' = ⟨Aq [(1, A7 l4 0 aLies1),(3, iv aFar3),(4, .ptr b1 0),(8, .ptr b3 0),(9, .ptr b11 0),(10, iv x63)] J, G⟩) ?_ ?_))
   ·refine sr (pM (.int _ _) ?_)
    refine pM (.int _ _) ?_
    refine Ao Gl hO 2 (.int _ _) B5 ?_
    refine AR ?_
    refine AR (pg (B1 hk ?_ ?_)) <;> intro hk
    ·refine Da (pM (.int _ _) ?_)
     refine Ao Gl hO 2 (.int _ _) B5 ?_
     refine AR ?_
     refine pA (.int _ _) (pg ?_)
     exact ⟨x41, x43, AV (aFar3 - x36), o43, o41, F42, _, _, hk, hno43, (pk hO [0, 1, 2, 3, 4]), sh⟩
    exact B7 (gn (⟨x41, x43, v45, o43, o41, F42, _, _, hk, hno43, (pk hO [0, 1, 2, 3, 4]), sh⟩))
   rintro _ ⟨x59, x61, x63, o61, o59, F60, J, G, hk, hno61, hO, rfl⟩
   refine sr (Bj hO 4 [_, _] CL B2 ?_)
   refine pF DE ?_
   refine pF CR ?_
   refine Bj hO 2 [_, _, _] J8 EC (bk hk fun v64 hv64 hk => ?_)
   refine AL (fun _ => Po hv64) ?_
   refine pA (.int _ _) (pg (AX ?_))
   refine Hz [1,3,5,7,9,11,13,15,17,19,21,23,25,27,29,31,33,34,36,38] [_,_,_,_,_,_,_,_,_,_,_,_,_,_,_,_,_,_,_,_] ?_
   refine Ao JA hO 2 o61 VO ?_
   refine Bj hO 4 [_, _] CL B2 ?_
   refine pF DE ?_
   refine pF CR ?_
   refine Ao DT hO 2 (.int _ _) B5 ?_
   refine pF DE ?_
   refine pF CR ?_
   refine Ao DU hO 2 (.int _ _) B5 ?_
   refine pM (.int _ _) ?_
   refine pM (.int _ _) ?_
   refine pM (.int _ _) ?_
   refine AR (bk hk fun v65 hv65 hk => ?_)
   refine AL (fun _ => YN hv65) ?_
   refine Rh (ps := [(0, (.agg [_, _, _]))]) ([v65] : List BD) Kg Gr Rs (Bc (D8 (α := BD) v65) (Cs)) (bk hk fun z66 hz66 hk => ?_)
   refine gN (xs := x61) hO 1 hz66 (Qv ([v65] : List BD)) Kg Gr iF Rs Kg rfl (fun o66 G hno66 hO => ?_)
   replace hno66 := hno66 hno61
   refine pF JA ?_
   have hc67 := CF hO (j := 1) rfl
   refine Jv (xs := [_]) [_, _, _, _, _, _, _, _, _] hO 2 iN rfl (fun G hO => ?_) (h3 := hc67.1) (h6 := EP hc67.2)
   refine pg (sr (pF DE ?_))
   refine pF CR ?_
   refine Ao Ej hO 2 (.int _ _) B5 ?_
   refine pM (.int _ _) ?_
   refine pF DE ?_
   refine pF CR ?_
   refine Ao DU hO 2 (.int _ _) B5 ?_
   refine AR ?_
   refine AR ?_
   refine pF DE ?_
   refine pF CR ?_
   refine pF Ej ?_
   refine Jv (xs := [_]) [_, _, _, _, _, _, _, _, _] hO 2 Ey rfl (fun G hO => pg (sr ?_))
   refine Ao Gl hO 2 (.int _ _) B5 ?_
   refine pM (.int _ _) ?_
   refine AR ?_
   refine pF Gl ?_
   refine Jv (xs := [_]) [_, _, _, _, _, _, _, _, _] hO 2 Ey rfl (fun G hO => pg (Da ?_))
   refine Bj hO 4 [_, _] CL B2 ?_
   refine pF DE ?_
   refine Bj hO 2 [_, _, _, _, _] Eh Bt (bk hk fun v68 hv68 hk => ?_)
   obtain ⟨lw69, _, hm69⟩ := WY hO (j := 0) rfl (lk.length + 1) 7
   refine IW (vs := [(.agg [_, _]), (.agg [_, _, _, _, _])]) (caps := []) hO (fun _ => MI hv68) (fun u70 F70 G hO => ?_) (h3 := (BB rfl (BB (QL (Cg rfl (Cg rfl (Cg rfl (Cg rfl (Cg hm69 QO)))))) Eg)))
   replace hO : A8 H G (Ck [] _ ((v68.A5, v68.AI, v68.AF) : CG × Int × (List AW)) _ :: [An H lk.length F60 x59 o59, .own o66 lk.length 3 z66.length (A9 0 z66), .B6 b11 (.cells 9 [iv 0, iv (AV (x36 + x63)), iv (-1:Int), iv x37, iv (AV (x38 + (AV (x63 * x39)))), iv x39, iv x40, o59, o66]), .B6 b3 (.cells 9 [iv 0, iv 0, iv 0, iv 0, iv 0, iv 0, iv 0, (.tl 0 []), (.tl 0 [])]), .B6 b1 (.cells 2 [A7 l1 0 aN0.A3, A7 l2 m3 aN0.A1])]) := hO
   obtain ⟨cs71, Fb71, he, hP⟩ := A8.LV hO
   clear hO; subst he; have hO := hP; clear hP
   obtain ⟨cs72, Fb72, he, hP⟩ := A8.LV hO
   clear hO; subst he; have hO := hP; clear hP
   obtain ⟨u73, rfl⟩ := A8.WW hO
   refine pF DE ?_
   have hc75 := DP hO (j := 0) rfl
   refine Jv (xs := [_, _, _, _, _]) [_, _, _, _, _, _, _, _, _] hO 3 Bt rfl (fun G hO => ?_) (h6 := (AE rfl (AE rfl (AE rfl (AE rfl (AE hc75.2 DM))))))
   refine pE (bn (gn ?_))
   cases hk; exact ⟨_, rfl, o66, u73, Fb72, _, _, hno66, (A8.pick (A8.dO (d := lk.length) hO 0) [0, 2, 3, 4, 5] (by decide) rfl), sh⟩
  exact Eo (ge (ge (be (gn (have hk := lx hx1 hk; ⟨0, x36, (-1:Int), x37, x38, x39, x40, x41, x43, o43, o41, F42, _, _, hk, hno43, (pk hO [0, 1, 2, 3, 4]), sh⟩)))))
 rintro _ ⟨x15, x16, x17, x18, x19, x20, x21, x22, x24, o24, o22, F23, J, G, hk, hno24, hO, rfl⟩
 refine sr (Bj hO 4 [_, _] CL B2 ?_)
 refine pF DE ?_
 refine Bj hO 2 [_, _, _, _, _] Eh Bt (bk hk fun v26 hv26 hk => ?_)
 obtain ⟨lw27, _, hm27⟩ := WY hO (j := 0) rfl (lk.length + 1) 7
 refine IW (vs := [(.agg [_, _]), (.agg [_, _, _, _, _])]) (caps := []) hO (fun _ => MI hv26) (fun u28 F28 G hO => ?_) (h3 := (BB rfl (BB (QL (Cg rfl (Cg rfl (Cg rfl (Cg rfl (Cg hm27 QO)))))) Eg)))
 replace hO : A8 H G (Ck [] _ ((v26.A5, v26.AI, v26.AF) : CG × Int × (List AW)) _ :: [An H lk.length F23 x22 o22, .own o24 lk.length 3 x24.length (A9 0 x24), .B6 b11 (.cells 9 [iv x15, iv x16, iv x17, iv x18, iv x19, iv x20, iv x21, o22, o24]), .B6 b3 (.cells 9 [iv 0, iv 0, iv 0, iv 0, iv 0, iv 0, iv 0, (.tl 0 []), (.tl 0 [])]), .B6 b1 (.cells 2 [A7 l1 0 aN0.A3, A7 l2 m3 aN0.A1])]) := hO
 obtain ⟨cs29, Fb29, he, hP⟩ := A8.LV hO
 clear hO; subst he; have hO := hP; clear hP
 obtain ⟨cs30, Fb30, he, hP⟩ := A8.LV hO
 clear hO; subst he; have hO := hP; clear hP
 obtain ⟨u31, rfl⟩ := A8.WW hO
 refine pF DE ?_
 have hc33 := DP hO (j := 0) rfl
 refine Jv (xs := [_, _, _, _, _]) [_, _, _, _, _, _, _, _, _] hO 3 Bt rfl (fun G hO => ?_) (h6 := (AE rfl (AE rfl (AE rfl (AE rfl (AE hc33.2 DM))))))
 refine pg (sr (Bj hO 3 [_, _, _, _, _, _, _, _, _] GA Cc ?_))
 have hc34 := DP hO (j := 0) rfl
 have hc35 := CF hO (j := 2) rfl
 refine Jv (xs := [_, _, _, _, _, _, _, _, _]) [_, _, _, _, _, _, _, _, _] hO 4 Cc rfl (fun G hO => ?_) (h6 := (AE rfl (AE rfl (AE rfl (AE rfl (AE rfl (AE rfl (AE rfl (AE hc34.2 (AE hc35.2 DM))))))))))
 refine pg (Ak ?_)
 replace hk := an hk; subst hk; exact Ez hO (Ew (Ad (c1 := [_]) (Bo x15) (Ad (c1 := [_]) (Bo x16) (Ad (c1 := [_]) (Bo x17) (Ad (c1 := [_, _, _, _, _]) (ET (Ad (c1 := [_, _, _]) (Jd (α := CG) v26.A5) (Ad (c1 := [_]) (Bo v26.AI) (GQ 0)))) (La hno24 hlk 1)))))) (Cb hO 4 [_, _, _, _, _, _, _, _, _] GA Cc Bh)
def f6 (aN0 : Az) (aLies1 : List Int) (aT2 : AB) (aFar3 : Int) : Option BF :=
 ((iS aN0 aLies1 aT2 aFar3).bind fun v4 => (bif !v4 then some ({ Code := (5:Int), MT := 0, AO := 0, AB := ({ A5 := ({ A0 := 0, At := 0, Way := 0 } : CG), AI := 0, AF := ([] : List AW) } : AB), Dp := ([] : List BD) } : BF) else ((iT aN0 aLies1 aT2 aFar3).bind fun v5 => some v5)))
theorem aU (hk : f6 aN0 aLies1 aT2 aFar3 = some r) (hlk : 0 < lk.length := by simp) : ∃ v H1, Ai ah hh 6 [.agg [A7 l1 0 aN0.A3, A7 l2 m3 aN0.A1], A7 l4 0 aLies1, .agg [iv aT2.A5.A0, iv aT2.A5.At, iv aT2.A5.Way, iv aT2.AI, A7 l5 0 aT2.AF], iv aFar3] H lk = some (v, H1) ∧ HM H r v H1 := by
 refine BA Tryz.func6 rfl Tryz.ntmps6 Tryz.results6 rfl rfl ?_
 have hO := A8.nil H
 unfold f6 at hk
 refine sr (Ax (cs := [_, _]) hO B2 (fun b1 G hO => ?_))
 refine Ax (cs := [_, _, _, _, _]) hO Bt (fun b2 G hO => Bd hO Cc LX (fun b3 G hO => pg (AX (sr ?_))))
 refine Bj hO 2 [_, _] CL B2 ?_
 refine pM (.lit _ _ _) ?_
 refine Bj hO 1 [_, _, _, _, _] Eh Bt ?_
 refine pM (.int _ _) (bk hk fun v4 hv4 hk => ?_)
 refine AL (fun _ => Xu hv4) ?_
 refine pU (pg (B1 hk ?_ ?_)) <;> intro hk
 ·refine sr (HS [_, _, _, _, _, _, _, _, _] LX ZK ?_)
  refine Jv (xs := [_, _, _, _, _, _, _, _, _]) [_, _, _, _, _, _, _, _, _] hO 0 Cc rfl (fun G hO => pg (Ak (gr ?_)))
  replace hk := an hk; subst hk; exact Ez hO (Ew (Ad (c1 := [_]) (Bo (5:Int)) (Ad (c1 := [_]) (Bo 0) (Ad (c1 := [_]) (Bo 0) (Ad (c1 := [_, _, _, _, _]) (ET (Ad (c1 := [_, _, _]) (Jd (α := CG) ({ A0 := 0, At := 0, Way := 0 } : CG)) (Ad (c1 := [_]) (Bo 0) (LZ AW)))) (LZ BD)))))) (Cb hO 0 [_, _, _, _, _, _, _, _, _] GA Cc Bh)
 refine B7 (gn (sr (Bj hO 2 [_, _] CL B2 ?_)))
 refine pM (.lit _ _ _) ?_
 refine Bj hO 1 [_, _, _, _, _] Eh Bt ?_
 refine pM (.int _ _) (bk hk fun v5 hv5 hk => ?_)
 refine IW hO (fun _ => Xv hv5) (fun u6 F6 G hO => ?_)
 refine Ri hO 1 0 Cc rfl (fun G hO => pg (Ak ?_))
 replace hk := an hk; subst hk; exact Ez hO (GQ 0) (Zg hO 1 0 GA Cc Bh)
end
end Go.Proofs.YtblodpbcinkehaaGreat.K
