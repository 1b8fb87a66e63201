/-
 The functions that FnExactPointLock reaches, as typed Lean functions, and that the interpreter computes them. Part 1 of 4. No conditions.
-/
import Derived.Test.YtphpkphklegfeaaGreatK3
import Derived.Test.YtphpkphklegfeaaGreatProg
set_option linter.unusedVariables false
set_option linter.unusedSimpArgs false
set_option maxRecDepth 100000
namespace Go.Proofs.YtphpkphklegfeaaGreat.K
noncomputable section
variable {H : A3} {lk : Lk}
def hh : Be := { D7 := fun k => bif Nat.beq k 15 || Nat.beq k 16 || Nat.beq k 17 || Nat.beq k 53 || Nat.beq k 54 || Nat.beq k 55 || Nat.beq k 56 || Nat.beq k 57 || Nat.beq k 88 then [.exact] else [], Ot := fun k => Nat.beq k 9 || Nat.beq k 10 || Nat.beq k 11 || Nat.beq k 39 || Nat.beq k 40 || Nat.beq k 41 || Nat.beq k 42 || Nat.beq k 43 || Nat.beq k 44 || Nat.beq k 47 || Nat.beq k 61 || Nat.beq k 76 || Nat.beq k 78 || Nat.beq k 95 || Nat.beq k 98 || Nat.beq k 106 || Nat.beq k 115 || Nat.beq k 116 || Nat.beq k 117, grow := fun k => Nat.beq k 65 || Nat.beq k 66 || Nat.beq k 94 || Nat.beq k 99 || Nat.beq k 114, GK := fun k => Nat.beq k 40 || Nat.beq k 41 || Nat.beq k 44 || Nat.beq k 58 || Nat.beq k 61 || Nat.beq k 93 }
structure Ae where
 Switch : Int
 FC : Int
instance : AL Ae := ⟨2, by decide, fun l x => AL.BY l x.Switch ++ (AL.BY l x.FC), fun x => by simp only [List.length_append, AL.len]; rfl, fun x h => by simp only [CA, AL.G5 _ h]; rfl, fun x => by simp only [List.all_append, AL.cell]; rfl⟩
instance : Ao Ae := Ao.via (fun x => (x.Switch, x.FC) : Ae → Int × Int) rfl fun _ _ => rfl
instance : HQ Ae := ⟨fun h => HQ.inv (α := Int × Int) h⟩
instance : JZ Ae := ⟨fun h d => JZ.cl (α := Int × Int) h d⟩
instance : D1 Ae := ⟨fun G x => D1.fl (α := Int × Int) G (x.Switch, x.FC), fun l x => D1.fF (α := Int × Int) l (x.Switch, x.FC), D1.pos (α := Int × Int)⟩
theorem MQ : Bm Ae Int (fun x => x.Switch) (fun x y => { x with Switch := y }) 0 := Bm.via (α := Ae) (f := (fun x => (x.Switch, x.FC) : Ae → Int × Int)) (hz := rfl) (he := fun _ _ => rfl) (Bm.fst) fun _ _ => rfl
theorem Qi : Bm Ae Int (fun x => x.FC) (fun x y => { x with FC := y }) 1 := Bm.via (α := Ae) (f := (fun x => (x.Switch, x.FC) : Ae → Int × Int)) (hz := rfl) (he := fun _ _ => rfl) (Bm.snd) fun _ _ => rfl
structure Bq where
 A0 : List Int
 AQ : List Ae
 AH : List Ae
 Bt : List Int
 DB : List Int
instance : AL Bq := ⟨5, by decide, fun l x => AL.BY l x.A0 ++ (AL.BY l x.AQ ++ (AL.BY l x.AH ++ (AL.BY l x.Bt ++ (AL.BY l x.DB)))), fun x => by simp only [List.length_append, AL.len]; rfl, fun x h => by simp only [CA, AL.G5 _ h]; rfl, fun x => by simp only [List.all_append, AL.cell]; rfl⟩
abbrev Cn (a b c d e f g h i j : Nat) (x : Bq) : List V := [AN a b x.A0, AN c d x.AQ, AN e f x.AH, AN g h x.Bt, AN i j x.DB]
instance : Ao Bq := Ao.via (fun x => (x.A0, x.AQ, x.AH, x.Bt, x.DB) : Bq → (List Int) × (List Ae) × (List Ae) × (List Int) × (List Int)) rfl fun _ _ => rfl
instance : JZ Bq := ⟨fun h d => JZ.cl (α := (List Int) × (List Ae) × (List Ae) × (List Int) × (List Int)) h d⟩
theorem LV : Bm Bq (List Int) (fun x => x.A0) (fun x y => { x with A0 := y }) 0 := Bm.via (α := Bq) (f := (fun x => (x.A0, x.AQ, x.AH, x.Bt, x.DB) : Bq → (List Int) × (List Ae) × (List Ae) × (List Int) × (List Int))) (hz := rfl) (he := fun _ _ => rfl) (Bm.fst) fun _ _ => rfl
theorem Qj : Bm Bq (List Ae) (fun x => x.AQ) (fun x y => { x with AQ := y }) 1 := Bm.via (α := Bq) (f := (fun x => (x.A0, x.AQ, x.AH, x.Bt, x.DB) : Bq → (List Int) × (List Ae) × (List Ae) × (List Int) × (List Int))) (hz := rfl) (he := fun _ _ => rfl) (Bm.comp Bm.snd (Bm.fst)) fun _ _ => rfl
theorem O4 : Bm Bq (List Ae) (fun x => x.AH) (fun x y => { x with AH := y }) 2 := Bm.via (α := Bq) (f := (fun x => (x.A0, x.AQ, x.AH, x.Bt, x.DB) : Bq → (List Int) × (List Ae) × (List Ae) × (List Int) × (List Int))) (hz := rfl) (he := fun _ _ => rfl) (Bm.comp Bm.snd (Bm.comp Bm.snd (Bm.fst))) fun _ _ => rfl
theorem Ql : Bm Bq (List Int) (fun x => x.Bt) (fun x y => { x with Bt := y }) 3 := Bm.via (α := Bq) (f := (fun x => (x.A0, x.AQ, x.AH, x.Bt, x.DB) : Bq → (List Int) × (List Ae) × (List Ae) × (List Int) × (List Int))) (hz := rfl) (he := fun _ _ => rfl) (Bm.comp Bm.snd (Bm.comp Bm.snd (Bm.comp Bm.snd (Bm.fst)))) fun _ _ => rfl
theorem Qk : Bm Bq (List Int) (fun x => x.DB) (fun x y => { x with DB := y }) 4 := Bm.via (α := Bq) (f := (fun x => (x.A0, x.AQ, x.AH, x.Bt, x.DB) : Bq → (List Int) × (List Ae) × (List Ae) × (List Int) × (List Int))) (hz := rfl) (he := fun _ _ => rfl) (Bm.comp Bm.snd (Bm.comp Bm.snd (Bm.comp Bm.snd (Bm.snd)))) fun _ _ => rfl
theorem eN {H : A3} {d n : Nat} {rs rs1 : List BE} {cs : List V} {x : Bq} (h : MW n H d rs cs (x.A0, x.AQ, x.AH, x.Bt, x.DB) rs1) : MW n H d rs cs x rs1 := h
theorem lF {H G : A3} {rs : List BE} {S F : List Nat} {x : Bq} {cs : List V} {j : Nat} (hO : A5 H G rs) (hj : rs[j]? = some (AY S F x cs)) (lv n : Nat) (hn : Nat.ble (Ao.dep Bq) n = true := by rfl) : ∃ M, An lv G (n + 1) (.agg cs) = some (.agg [AN lv 0 x.A0, AN lv 0 x.AQ, AN lv 0 x.AH, AN lv 0 x.Bt, AN lv 0 x.DB], M) := by
 have h := OM hO hj lv n hn
 have e : AL.BY lv x = [AN lv 0 x.A0, AN lv 0 x.AQ, AN lv 0 x.AH, AN lv 0 x.Bt, AN lv 0 x.DB] := by
  show ([AN lv lv x.A0, AN lv lv x.AQ, AN lv lv x.AH, AN lv lv x.Bt, AN lv lv x.DB] : List V) = _
  simp only [AN, I4]
 rwa [e] at h
structure AP where
 A0 : Int
 A6 : List Int
 A7 : List Bq
 BV : List (List Bool)
 E8 : Int
instance : AL AP := ⟨5, by decide, fun l x => AL.BY l x.A0 ++ (AL.BY l x.A6 ++ (AL.BY l x.A7 ++ (AL.BY l x.BV ++ (AL.BY l x.E8)))), fun x => by simp only [List.length_append, AL.len]; rfl, fun x h => by simp only [CA, AL.G5 _ h]; rfl, fun x => by simp only [List.all_append, AL.cell]; rfl⟩
abbrev Ai (a b c d e f : Nat) (x : AP) : List V := [.int .i64 x.A0, AN a b x.A6, AN c d x.A7, AN e f x.BV, .int .i64 x.E8]
instance : Ao AP := Ao.via (fun x => (x.A0, x.A6, x.A7, x.BV, x.E8) : AP → Int × (List Int) × (List Bq) × (List (List Bool)) × Int) rfl fun _ _ => rfl
instance : JZ AP := ⟨fun h d => JZ.cl (α := Int × (List Int) × (List Bq) × (List (List Bool)) × Int) h d⟩
theorem Kb : Bm AP (List Int) (fun x => x.A6) (fun x y => { x with A6 := y }) 1 := Bm.via (α := AP) (f := (fun x => (x.A0, x.A6, x.A7, x.BV, x.E8) : AP → Int × (List Int) × (List Bq) × (List (List Bool)) × Int)) (hz := rfl) (he := fun _ _ => rfl) (Bm.comp Bm.snd (Bm.fst)) fun _ _ => rfl
theorem P5 : Bm AP (List Bq) (fun x => x.A7) (fun x y => { x with A7 := y }) 2 := Bm.via (α := AP) (f := (fun x => (x.A0, x.A6, x.A7, x.BV, x.E8) : AP → Int × (List Int) × (List Bq) × (List (List Bool)) × Int)) (hz := rfl) (he := fun _ _ => rfl) (Bm.comp Bm.snd (Bm.comp Bm.snd (Bm.fst))) fun _ _ => rfl
theorem P4 : Bm AP (List (List Bool)) (fun x => x.BV) (fun x y => { x with BV := y }) 3 := Bm.via (α := AP) (f := (fun x => (x.A0, x.A6, x.A7, x.BV, x.E8) : AP → Int × (List Int) × (List Bq) × (List (List Bool)) × Int)) (hz := rfl) (he := fun _ _ => rfl) (Bm.comp Bm.snd (Bm.comp Bm.snd (Bm.comp Bm.snd (Bm.fst)))) fun _ _ => rfl
theorem aJ {H : A3} {d n : Nat} {rs rs1 : List BE} {cs : List V} {x : AP} (h : MW n H d rs cs (x.A0, x.A6, x.A7, x.BV, x.E8) rs1) : MW n H d rs cs x rs1 := h
theorem Km {H G : A3} {rs : List BE} {S F : List Nat} {x : AP} {cs : List V} {j : Nat} (hO : A5 H G rs) (hj : rs[j]? = some (AY S F x cs)) (lv n : Nat) (hn : Nat.ble (Ao.dep AP) n = true := by rfl) : ∃ M, An lv G (n + 1) (.agg cs) = some (.agg [.int .i64 x.A0, AN lv 0 x.A6, AN lv lv x.A7, AN lv lv x.BV, .int .i64 x.E8], M) := by
 have h := OM hO hj lv n hn
 have e : AL.BY lv x = [.int .i64 x.A0, AN lv 0 x.A6, AN lv lv x.A7, AN lv lv x.BV, .int .i64 x.E8] := by
  show ([.int .i64 x.A0, AN lv lv x.A6, AN lv lv x.A7, AN lv lv x.BV, .int .i64 x.E8] : List V) = _
  simp only [AN, I4]
 rwa [e] at h
structure Al where
 Want : Int
 AQ : Int
instance : AL Al := ⟨2, by decide, fun l x => AL.BY l x.Want ++ (AL.BY l x.AQ), fun x => by simp only [List.length_append, AL.len]; rfl, fun x h => by simp only [CA, AL.G5 _ h]; rfl, fun x => by simp only [List.all_append, AL.cell]; rfl⟩
instance : Ao Al := Ao.via (fun x => (x.Want, x.AQ) : Al → Int × Int) rfl fun _ _ => rfl
instance : HQ Al := ⟨fun h => HQ.inv (α := Int × Int) h⟩
instance : JZ Al := ⟨fun h d => JZ.cl (α := Int × Int) h d⟩
instance : D1 Al := ⟨fun G x => D1.fl (α := Int × Int) G (x.Want, x.AQ), fun l x => D1.fF (α := Int × Int) l (x.Want, x.AQ), D1.pos (α := Int × Int)⟩
theorem O3 : Bm Al Int (fun x => x.Want) (fun x y => { x with Want := y }) 0 := Bm.via (α := Al) (f := (fun x => (x.Want, x.AQ) : Al → Int × Int)) (hz := rfl) (he := fun _ _ => rfl) (Bm.fst) fun _ _ => rfl
theorem O2 : Bm Al Int (fun x => x.AQ) (fun x y => { x with AQ := y }) 1 := Bm.via (α := Al) (f := (fun x => (x.Want, x.AQ) : Al → Int × Int)) (hz := rfl) (he := fun _ _ => rfl) (Bm.snd) fun _ _ => rfl
structure AG where
 State : Int
 Ab : Int
 Aa : List Bool
 Shown : Bool
 Timer : Int
instance : AL AG := ⟨5, by decide, fun l x => AL.BY l x.State ++ (AL.BY l x.Ab ++ (AL.BY l x.Aa ++ (AL.BY l x.Shown ++ (AL.BY l x.Timer)))), fun x => by simp only [List.length_append, AL.len]; rfl, fun x h => by simp only [CA, AL.G5 _ h]; rfl, fun x => by simp only [List.all_append, AL.cell]; rfl⟩
instance : Ao AG := Ao.via (fun x => (x.State, x.Ab, x.Aa, x.Shown, x.Timer) : AG → Int × Int × (List Bool) × Bool × Int) rfl fun _ _ => rfl
instance : JZ AG := ⟨fun h d => JZ.cl (α := Int × Int × (List Bool) × Bool × Int) h d⟩
theorem BL : Bm AG Int (fun x => x.State) (fun x y => { x with State := y }) 0 := Bm.via (α := AG) (f := (fun x => (x.State, x.Ab, x.Aa, x.Shown, x.Timer) : AG → Int × Int × (List Bool) × Bool × Int)) (hz := rfl) (he := fun _ _ => rfl) (Bm.fst) fun _ _ => rfl
theorem Bn : Bm AG Int (fun x => x.Ab) (fun x y => { x with Ab := y }) 1 := Bm.via (α := AG) (f := (fun x => (x.State, x.Ab, x.Aa, x.Shown, x.Timer) : AG → Int × Int × (List Bool) × Bool × Int)) (hz := rfl) (he := fun _ _ => rfl) (Bm.comp Bm.snd (Bm.fst)) fun _ _ => rfl
theorem Cb : Bm AG (List Bool) (fun x => x.Aa) (fun x y => { x with Aa := y }) 2 := Bm.via (α := AG) (f := (fun x => (x.State, x.Ab, x.Aa, x.Shown, x.Timer) : AG → Int × Int × (List Bool) × Bool × Int)) (hz := rfl) (he := fun _ _ => rfl) (Bm.comp Bm.snd (Bm.comp Bm.snd (Bm.fst))) fun _ _ => rfl
theorem Gc : Bm AG Bool (fun x => x.Shown) (fun x y => { x with Shown := y }) 3 := Bm.via (α := AG) (f := (fun x => (x.State, x.Ab, x.Aa, x.Shown, x.Timer) : AG → Int × Int × (List Bool) × Bool × Int)) (hz := rfl) (he := fun _ _ => rfl) (Bm.comp Bm.snd (Bm.comp Bm.snd (Bm.comp Bm.snd (Bm.fst)))) fun _ _ => rfl
theorem Gd : Bm AG Int (fun x => x.Timer) (fun x y => { x with Timer := y }) 4 := Bm.via (α := AG) (f := (fun x => (x.State, x.Ab, x.Aa, x.Shown, x.Timer) : AG → Int × Int × (List Bool) × Bool × Int)) (hz := rfl) (he := fun _ _ => rfl) (Bm.comp Bm.snd (Bm.comp Bm.snd (Bm.comp Bm.snd (Bm.snd)))) fun _ _ => rfl
theorem V3 {H : A3} {d n : Nat} {rs rs1 : List BE} {cs : List V} {x : AG} (h : MW n H d rs cs (x.State, x.Ab, x.Aa, x.Shown, x.Timer) rs1) : MW n H d rs cs x rs1 := h
theorem kE {H G : A3} {rs : List BE} {S F : List Nat} {x : AG} {cs : List V} {j : Nat} (hO : A5 H G rs) (hj : rs[j]? = some (AY S F x cs)) (lv n : Nat) (hn : Nat.ble (Ao.dep AG) n = true := by rfl) : ∃ M, An lv G (n + 1) (.agg cs) = some (.agg [.int .i64 x.State, .int .i64 x.Ab, AN lv 0 x.Aa, .bool x.Shown, .int .i64 x.Timer], M) := by
 have h := OM hO hj lv n hn
 have e : AL.BY lv x = [.int .i64 x.State, .int .i64 x.Ab, AN lv 0 x.Aa, .bool x.Shown, .int .i64 x.Timer] := by
  show ([.int .i64 x.State, .int .i64 x.Ab, AN lv lv x.Aa, .bool x.Shown, .int .i64 x.Timer] : List V) = _
  simp only [AN, I4]
 rwa [e] at h
structure AD where
 Ok : Bool
 C5 : List Bool
 AF : List Al
 A7 : List AG
instance : AL AD := ⟨4, by decide, fun l x => AL.BY l x.Ok ++ (AL.BY l x.C5 ++ (AL.BY l x.AF ++ (AL.BY l x.A7))), fun x => by simp only [List.length_append, AL.len]; rfl, fun x h => by simp only [CA, AL.G5 _ h]; rfl, fun x => by simp only [List.all_append, AL.cell]; rfl⟩
abbrev Ah (a b c d e f : Nat) (x : AD) : List V := [.bool x.Ok, AN a b x.C5, AN c d x.AF, AN e f x.A7]
instance : Ao AD := Ao.via (fun x => (x.Ok, x.C5, x.AF, x.A7) : AD → Bool × (List Bool) × (List Al) × (List AG)) rfl fun _ _ => rfl
instance : JZ AD := ⟨fun h d => JZ.cl (α := Bool × (List Bool) × (List Al) × (List AG)) h d⟩
theorem P3 : Bm AD (List Bool) (fun x => x.C5) (fun x y => { x with C5 := y }) 1 := Bm.via (α := AD) (f := (fun x => (x.Ok, x.C5, x.AF, x.A7) : AD → Bool × (List Bool) × (List Al) × (List AG))) (hz := rfl) (he := fun _ _ => rfl) (Bm.comp Bm.snd (Bm.fst)) fun _ _ => rfl
theorem LU : Bm AD (List Al) (fun x => x.AF) (fun x y => { x with AF := y }) 2 := Bm.via (α := AD) (f := (fun x => (x.Ok, x.C5, x.AF, x.A7) : AD → Bool × (List Bool) × (List Al) × (List AG))) (hz := rfl) (he := fun _ _ => rfl) (Bm.comp Bm.snd (Bm.comp Bm.snd (Bm.fst))) fun _ _ => rfl
theorem O1 : Bm AD (List AG) (fun x => x.A7) (fun x y => { x with A7 := y }) 3 := Bm.via (α := AD) (f := (fun x => (x.Ok, x.C5, x.AF, x.A7) : AD → Bool × (List Bool) × (List Al) × (List AG))) (hz := rfl) (he := fun _ _ => rfl) (Bm.comp Bm.snd (Bm.comp Bm.snd (Bm.snd))) fun _ _ => rfl
theorem Oq {H : A3} {d n : Nat} {rs rs1 : List BE} {cs : List V} {x : AD} (h : MW n H d rs cs (x.Ok, x.C5, x.AF, x.A7) rs1) : MW n H d rs cs x rs1 := h
theorem Iy {H G : A3} {rs : List BE} {S F : List Nat} {x : AD} {cs : List V} {j : Nat} (hO : A5 H G rs) (hj : rs[j]? = some (AY S F x cs)) (lv n : Nat) (hn : Nat.ble (Ao.dep AD) n = true := by rfl) : ∃ M, An lv G (n + 1) (.agg cs) = some (.agg [.bool x.Ok, AN lv 0 x.C5, AN lv 0 x.AF, AN lv lv x.A7], M) := by
 have h := OM hO hj lv n hn
 have e : AL.BY lv x = [.bool x.Ok, AN lv 0 x.C5, AN lv 0 x.AF, AN lv lv x.A7] := by
  show ([.bool x.Ok, AN lv lv x.C5, AN lv lv x.AF, AN lv lv x.A7] : List V) = _
  simp only [AN, I4]
 rwa [e] at h
structure Ba where
 Code : Int
 At : Int
instance : AL Ba := ⟨2, by decide, fun l x => AL.BY l x.Code ++ (AL.BY l x.At), fun x => by simp only [List.length_append, AL.len]; rfl, fun x h => by simp only [CA, AL.G5 _ h]; rfl, fun x => by simp only [List.all_append, AL.cell]; rfl⟩
instance : Ao Ba := Ao.via (fun x => (x.Code, x.At) : Ba → Int × Int) rfl fun _ _ => rfl
instance : HQ Ba := ⟨fun h => HQ.inv (α := Int × Int) h⟩
instance : JZ Ba := ⟨fun h d => JZ.cl (α := Int × Int) h d⟩
instance : D1 Ba := ⟨fun G x => D1.fl (α := Int × Int) G (x.Code, x.At), fun l x => D1.fF (α := Int × Int) l (x.Code, x.At), D1.pos (α := Int × Int)⟩
structure Cy where
 A7 : List Int
 A0 : List Int
 AF : List Int
instance : AL Cy := ⟨3, by decide, fun l x => AL.BY l x.A7 ++ (AL.BY l x.A0 ++ (AL.BY l x.AF)), fun x => by simp only [List.length_append, AL.len]; rfl, fun x h => by simp only [CA, AL.G5 _ h]; rfl, fun x => by simp only [List.all_append, AL.cell]; rfl⟩
instance : Ao Cy := Ao.via (fun x => (x.A7, x.A0, x.AF) : Cy → (List Int) × (List Int) × (List Int)) rfl fun _ _ => rfl
instance : JZ Cy := ⟨fun h d => JZ.cl (α := (List Int) × (List Int) × (List Int)) h d⟩
theorem jT {H : A3} {d n : Nat} {rs rs1 : List BE} {cs : List V} {x : Cy} (h : MW n H d rs cs (x.A7, x.A0, x.AF) rs1) : MW n H d rs cs x rs1 := h
theorem iK {H G : A3} {rs : List BE} {S F : List Nat} {x : Cy} {cs : List V} {j : Nat} (hO : A5 H G rs) (hj : rs[j]? = some (AY S F x cs)) (lv n : Nat) (hn : Nat.ble (Ao.dep Cy) n = true := by rfl) : ∃ M, An lv G (n + 1) (.agg cs) = some (.agg [AN lv 0 x.A7, AN lv 0 x.A0, AN lv 0 x.AF], M) := by
 have h := OM hO hj lv n hn
 have e : AL.BY lv x = [AN lv 0 x.A7, AN lv 0 x.A0, AN lv 0 x.AF] := by
  show ([AN lv lv x.A7, AN lv lv x.A0, AN lv lv x.AF] : List V) = _
  simp only [AN, I4]
 rwa [e] at h
theorem SX : B3 Tryz.prog 26 = some 5 := by rfl
theorem SY : B3 Tryz.prog 31 = some 4 := by rfl
theorem Y7 : Ct Tryz.prog 26 = some true := by rfl
theorem YA : AU Tryz.prog 26 1 = some 1 := by rfl
theorem BK : Ct Tryz.prog 22 = some false := by rfl
theorem D5 : HN Tryz.prog 22 = some false := by rfl
theorem YB : AU Tryz.prog 26 2 = some 2 := by rfl
theorem jH : Ct Tryz.prog 23 = some false := by rfl
theorem aH : HN Tryz.prog 23 = some false := by rfl
theorem jO : Au Tryz.prog 23 = some 107 := by rfl
theorem Px : B3 Tryz.prog 107 = some 5 := by rfl
theorem bL : Ct Tryz.prog 107 = some true := by rfl
theorem Ux : AU Tryz.prog 107 0 = some 0 := by rfl
theorem Uy : AU Tryz.prog 107 1 = some 1 := by rfl
theorem Uv : Ct Tryz.prog 105 = some false := by rfl
theorem YG : HN Tryz.prog 105 = some false := by rfl
theorem Uz : AU Tryz.prog 107 2 = some 2 := by rfl
theorem V0 : AU Tryz.prog 107 3 = some 3 := by rfl
theorem V1 : AU Tryz.prog 107 4 = some 4 := by rfl
theorem YC : AU Tryz.prog 26 3 = some 3 := by rfl
theorem IW : Ct Tryz.prog 24 = some false := by rfl
theorem Lv : HN Tryz.prog 24 = some false := by rfl
theorem IX : Au Tryz.prog 24 = some 27 := by rfl
theorem GB : B3 Tryz.prog 27 = some 1 := by rfl
theorem C8 : Ct Tryz.prog 27 = some false := by rfl
theorem HO : HN Tryz.prog 27 = some false := by rfl
theorem Y8 : Ct Tryz.prog 31 = some true := by rfl
theorem YD : AU Tryz.prog 31 1 = some 1 := by rfl
theorem YE : AU Tryz.prog 31 2 = some 2 := by rfl
theorem jI : Ct Tryz.prog 28 = some false := by rfl
theorem eK : HN Tryz.prog 28 = some false := by rfl
theorem YF : AU Tryz.prog 31 3 = some 3 := by rfl
theorem jJ : Ct Tryz.prog 29 = some false := by rfl
theorem aI : HN Tryz.prog 29 = some false := by rfl
theorem jP : Au Tryz.prog 29 = some 109 := by rfl
theorem Py : B3 Tryz.prog 109 = some 5 := by rfl
theorem bM : Ct Tryz.prog 109 = some true := by rfl
theorem V2 : AU Tryz.prog 109 2 = some 2 := by rfl
theorem CC : B3 Tryz.prog 37 = some 5 := by rfl
theorem eE : BD Tryz.prog 37 = some [.int .i64 0, (.tl 0 []), (.tl 0 []), (.tl 0 []), .int .i64 0] := by rfl
theorem eH : AU Tryz.prog 26 0 = some 0 := by rfl
theorem BU : Ct Tryz.prog 3 = some false := by rfl
theorem EK : AU Tryz.prog 37 0 = some 0 := by rfl
theorem DP : B3 Tryz.prog 3 = some 1 := by rfl
theorem C4 : Au Tryz.prog 22 = some 3 := by rfl
theorem W8 : C0 Tryz.prog 3 = some 8 := by rfl
theorem MO : BD Tryz.prog 3 = some [.int .i64 0] := by rfl
theorem DE : AU Tryz.prog 37 1 = some 1 := by rfl
theorem Kx : B3 Tryz.prog 22 = some 1 := by rfl
theorem Er : Au Tryz.prog 35 = some 115 := by rfl
theorem Az : B3 Tryz.prog 115 = some 5 := by rfl
theorem jK : C0 Tryz.prog 115 = some 120 := by rfl
theorem IU : BD Tryz.prog 115 = some [(.tl 0 []), (.tl 0 []), (.tl 0 []), (.tl 0 []), (.tl 0 [])] := by rfl
theorem BI : AU Tryz.prog 115 0 = some 0 := by rfl
theorem Df : Au Tryz.prog 113 = some 122 := by rfl
theorem BB : B3 Tryz.prog 122 = some 2 := by rfl
theorem SW : C0 Tryz.prog 122 = some 16 := by rfl
theorem FT : BD Tryz.prog 122 = some [.int .i64 0, .int .i64 0] := by rfl
theorem jN : Au Tryz.prog 105 = some 151 := by rfl
theorem YI : B3 Tryz.prog 151 = some 2 := by rfl
theorem jG : Ct Tryz.prog 151 = some true := by rfl
theorem aF : AU Tryz.prog 151 0 = some 0 := by rfl
theorem CP : AU Tryz.prog 122 0 = some 0 := by rfl
theorem aG : AU Tryz.prog 151 1 = some 1 := by rfl
theorem E7 : AU Tryz.prog 122 1 = some 1 := by rfl
theorem G3 : Ct Tryz.prog 122 = some true := by rfl
theorem E6 : AU Tryz.prog 115 1 = some 1 := by rfl
theorem Pz : B3 Tryz.prog 113 = some 1 := by rfl
theorem EU : AU Tryz.prog 115 2 = some 2 := by rfl
theorem DU : AU Tryz.prog 115 3 = some 3 := by rfl
theorem JY : AU Tryz.prog 115 4 = some 4 := by rfl
theorem Ew : Ct Tryz.prog 115 = some true := by rfl
theorem Bl : AU Tryz.prog 37 2 = some 2 := by rfl
theorem mB : B3 Tryz.prog 35 = some 1 := by rfl
theorem lY : C0 Tryz.prog 27 = some 24 := by rfl
theorem lX : BD Tryz.prog 27 = some [(.tl 0 [])] := by rfl
theorem Cl : Au Tryz.prog 27 = some 4 := by rfl
theorem FO : B3 Tryz.prog 4 = some 1 := by rfl
theorem eF : C0 Tryz.prog 4 = some 1 := by rfl
theorem bK : BD Tryz.prog 4 = some [.bool false] := by rfl
theorem Fk : Ct Tryz.prog 4 = some false := by rfl
theorem EL : AU Tryz.prog 37 3 = some 3 := by rfl
theorem mA : B3 Tryz.prog 24 = some 1 := by rfl
theorem eI : AU Tryz.prog 26 4 = some 4 := by rfl
theorem K6 : AU Tryz.prog 37 4 = some 4 := by rfl
theorem FB : Ct Tryz.prog 37 = some true := by rfl
theorem Bv : B3 Tryz.prog 42 = some 4 := by rfl
theorem RM : BD Tryz.prog 42 = some [.bool false, (.tl 0 []), (.tl 0 []), (.tl 0 [])] := by rfl
theorem eJ : AU Tryz.prog 31 0 = some 0 := by rfl
theorem Lt : AU Tryz.prog 42 0 = some 0 := by rfl
theorem Cm : AU Tryz.prog 42 1 = some 1 := by rfl
theorem IY : Au Tryz.prog 39 = some 98 := by rfl
theorem EA : B3 Tryz.prog 98 = some 2 := by rfl
theorem eG : C0 Tryz.prog 98 = some 16 := by rfl
theorem SV : BD Tryz.prog 98 = some [.int .i64 0, .int .i64 0] := by rfl
theorem lZ : Au Tryz.prog 28 = some 118 := by rfl
theorem YH : B3 Tryz.prog 118 = some 2 := by rfl
theorem jF : Ct Tryz.prog 118 = some true := by rfl
theorem aC : AU Tryz.prog 118 0 = some 0 := by rfl
theorem II : AU Tryz.prog 98 0 = some 0 := by rfl
theorem aD : AU Tryz.prog 118 1 = some 1 := by rfl
theorem K7 : AU Tryz.prog 98 1 = some 1 := by rfl
theorem RN : Ct Tryz.prog 98 = some true := by rfl
theorem Db : AU Tryz.prog 42 2 = some 2 := by rfl
theorem eL : B3 Tryz.prog 39 = some 1 := by rfl
theorem EJ : Au Tryz.prog 40 = some 101 := by rfl
theorem Av : B3 Tryz.prog 101 = some 5 := by rfl
theorem Y9 : C0 Tryz.prog 101 = some 56 := by rfl
theorem FN : BD Tryz.prog 101 = some [.int .i64 0, .int .i64 0, (.tl 0 []), .bool false, .int .i64 0] := by rfl
theorem a8 : AU Tryz.prog 109 0 = some 0 := by rfl
theorem B8 : AU Tryz.prog 101 0 = some 0 := by rfl
theorem a9 : AU Tryz.prog 109 1 = some 1 := by rfl
theorem Bw : AU Tryz.prog 101 1 = some 1 := by rfl
theorem C3 : AU Tryz.prog 101 2 = some 2 := by rfl
theorem aA : AU Tryz.prog 109 3 = some 3 := by rfl
theorem Dm : AU Tryz.prog 101 3 = some 3 := by rfl
theorem aB : AU Tryz.prog 109 4 = some 4 := by rfl
theorem E5 : AU Tryz.prog 101 4 = some 4 := by rfl
theorem G0 : Ct Tryz.prog 101 = some true := by rfl
theorem Bd : AU Tryz.prog 42 3 = some 3 := by rfl
theorem eM : B3 Tryz.prog 40 = some 1 := by rfl
theorem Ep : Ct Tryz.prog 42 = some true := by rfl
theorem D0 : B3 Tryz.prog 136 = some 2 := by rfl
theorem FU : BD Tryz.prog 136 = some [.int .i64 0, .int .i64 0] := by rfl
theorem Du : Ct Tryz.prog 35 = some false := by rfl
theorem IZ : HN Tryz.prog 35 = some false := by rfl
theorem Gm : FL Tryz.prog 136 = some [(0, 1), (1, 1)] := by rfl
theorem HC : Ct Tryz.prog 136 = some true := by rfl
theorem Da : Ct Tryz.prog 113 = some false := by rfl
theorem Ex : HN Tryz.prog 113 = some false := by rfl
theorem aE : AU Tryz.prog 136 0 = some 0 := by rfl
theorem JD : Ct Tryz.prog 39 = some false := by rfl
theorem Oo : HN Tryz.prog 39 = some false := by rfl
theorem Dv : Ct Tryz.prog 40 = some false := by rfl
theorem IJ : HN Tryz.prog 40 = some false := by rfl
theorem m6 : FL Tryz.prog 42 = some [(0, 1), (1, 1), (2, 1), (3, 1)] := by rfl
theorem Uw : Au Tryz.prog 128 = some 113 := by rfl
theorem bJ : BD Tryz.prog 113 = some [(.tl 0 [])] := by rfl
theorem bS : HN Tryz.prog 128 = some false := by rfl
theorem bP : Au Tryz.prog 146 = some 22 := by rfl
theorem lW : BD Tryz.prog 22 = some [(.tl 0 [])] := by rfl
theorem jS : HN Tryz.prog 146 = some false := by rfl
theorem bR : FL Tryz.prog 101 = some [(0, 1), (1, 1), (2, 1), (3, 1), (4, 1)] := by rfl
theorem bN : Tryz.f114.body.bind FK = some 113 := by rfl
theorem bQ : PC Tryz.prog 156 = some (.one .i, 4) := by decide +kernel
theorem n8 : Oy Tryz.prog 4 = some (Ia.pv (false : Bool)) := by rfl
theorem jQ : IP Tryz.prog 136 = some [.i, .i] := by decide +kernel
theorem bO : Tryz.f115.body.bind FK = some 27 := by rfl
theorem jL : Tryz.f116.body.bind FK = some 39 := by rfl
theorem jM : Tryz.f117.body.bind FK = some 40 := by rfl
theorem m7 : FL Tryz.prog 98 = some [(0, 1), (1, 1)] := by rfl
theorem jR : IP Tryz.prog 98 = some [.i, .i] := by decide +kernel
theorem Ky : B3 Tryz.prog 52 = some 3 := by rfl
theorem W0 : BD Tryz.prog 52 = some [(.tl 0 []), (.tl 0 []), (.tl 0 [])] := by rfl
theorem Om : AU Tryz.prog 52 0 = some 0 := by rfl
theorem On : AU Tryz.prog 52 1 = some 1 := by rfl
theorem Lu : AU Tryz.prog 52 2 = some 2 := by rfl
theorem a7 : Ct Tryz.prog 52 = some true := by rfl
def aT (aA0 : List Int) (aLeft1 : Int) : Option Int :=
 (bif decide ((BT (aLeft1 - (aA0.length : Int))) < (0:Int)) then some (-1:Int) else some (BT (aLeft1 - (aA0.length : Int))))
theorem Mj {aA0 : List Int} {aLeft1 : Int} {r : Int} {l1 : Nat} (hk : aT aA0 aLeft1 = some r) (hlk : 0 < lk.length := by simp) : Am Tryz.prog hh 30 [AN l1 0 aA0, iv aLeft1] H lk = some (iv r, H) := by
 refine AI Tryz.func30 rfl Tryz.ntmps30 Tryz.results30 rfl rfl fun hO => ?_
 unfold aT at hk
 refine A1 (A4 (pA (.int _ _) (pE (gn (A1 (A4 ?_))))))
 refine pM (.int _ _) ?_
 refine pM (.lit _ _ _) ?_
 refine Af D5 ?_
 refine AW ?_
 refine pA (.int _ _) (pE (gn (A1 (A1 (A4 ?_)))))
 refine pM (.int _ _) ?_
 refine AW (pE (gn (Aq hk (fun hk => ?_) (fun hk => ?_))))
 ·refine A1 (A4 (pA (.int _ _) (pE (gn (Aw (gr ?_))))))
  cases hk; exact AT hO
 ·refine Ar (gn (A1 (A4 (pM (.int _ _) ?_))))
  refine pA (.int _ _) (pE (gn (Aw ?_)))
  cases hk; exact AT hO
def VO (aA0 : List Ae) (aLeft1 : Int) : Option Int :=
 (bif decide ((BT (aLeft1 - (aA0.length : Int))) < (0:Int)) then some (-1:Int) else some (BT (aLeft1 - (aA0.length : Int))))
theorem Re {aA0 : List Ae} {aLeft1 : Int} {r : Int} {l1 : Nat} (hk : VO aA0 aLeft1 = some r) (hlk : 0 < lk.length := by simp) : Am Tryz.prog hh 103 [AN l1 0 aA0, iv aLeft1] H lk = some (iv r, H) := by
 refine AI Tryz.func103 rfl Tryz.ntmps103 Tryz.results103 rfl rfl fun hO => ?_
 unfold VO at hk
 refine A1 (A4 (pA (.int _ _) (pE (gn (A1 (A4 ?_))))))
 refine pM (.int _ _) ?_
 refine pM (.lit _ _ _) ?_
 refine Af YG ?_
 refine AW ?_
 refine pA (.int _ _) (pE (gn (A1 (A1 (A4 ?_)))))
 refine pM (.int _ _) ?_
 refine AW (pE (gn (Aq hk (fun hk => ?_) (fun hk => ?_))))
 ·refine A1 (A4 (pA (.int _ _) (pE (gn (Aw (gr ?_))))))
  cases hk; exact AT hO
 ·refine Ar (gn (A1 (A4 (pM (.int _ _) ?_))))
  refine pA (.int _ _) (pE (gn (Aw ?_)))
  cases hk; exact AT hO
def eZ (aA0 : Bq) (aLeft1 : Int) : Option Int :=
 ((aT aA0.A0 aLeft1).bind fun v2 => (bif decide (v2 < (0:Int)) then some (-1:Int) else ((VO aA0.AQ v2).bind fun v3 => (bif decide (v3 < (0:Int)) then some (-1:Int) else ((VO aA0.AH v3).bind fun v4 => (bif decide (v4 < (0:Int)) then some (-1:Int) else ((aT aA0.Bt v4).bind fun v5 => (bif decide (v5 < (0:Int)) then some (-1:Int) else ((aT aA0.DB v5).bind fun v6 => (bif decide (v6 < (0:Int)) then some (-1:Int) else some v6))))))))))
theorem ZJ {aA0 : Bq} {aLeft1 : Int} {r : Int} {l1 l2 l3 l4 l5 : Nat} (hk : eZ aA0 aLeft1 = some r) (hlk : 0 < lk.length := by simp) : Am Tryz.prog hh 70 [.agg (Cn l1 0 l2 0 l3 0 l4 0 l5 0 aA0), iv aLeft1] H lk = some (iv r, H) := by
 refine AI Tryz.func70 rfl Tryz.ntmps70 Tryz.results70 rfl rfl fun hO => ?_
 unfold eZ at hk
 refine A1 (A4 (BZ (cs := [_, _, _, _, _]) hO Px (fun b1 G hO => ?_)))
 refine pA (.int _ _) (pE (gn (A1 (A4 ?_))))
 refine As Ux hO 0 (.lit _ _ _) BK ?_
 refine pM (.int _ _) (bk hk fun v2 hv2 hk => ?_)
 refine AR (fun _ => Mj hv2) ?_
 refine pA (.int _ _) (pE (gn (A1 (A1 (A4 ?_)))))
 refine pM (.int _ _) ?_
 refine AW (pE (gn (Aq hk (fun hk => ?_) (fun hk => ?_))))
 ·refine A1 (A4 (pA (.int _ _) (pE (gn (Aw (gr ?_))))))
  cases hk; exact AT hO
 ·refine Ar (gn (A1 (A4 (As Uy hO 0 (.lit _ _ _) Uv ?_))))
  refine pM (.int _ _) (bk hk fun v3 hv3 hk => ?_)
  refine AR (fun _ => Re hv3) ?_
  refine pA (.int _ _) (pE (gn (A1 (A1 (A4 ?_)))))
  refine pM (.int _ _) ?_
  refine AW (pE (gn (Aq hk (fun hk => ?_) (fun hk => ?_))))
  ·refine A1 (A4 (pA (.int _ _) (pE (gn (Aw (gr ?_))))))
   cases hk; exact AT hO
  ·refine Ar (gn (A1 (A4 (As Uz hO 0 (.lit _ _ _) Uv ?_))))
   refine pM (.int _ _) (bk hk fun v4 hv4 hk => ?_)
   refine AR (fun _ => Re hv4) ?_
   refine pA (.int _ _) (pE (gn (A1 (A1 (A4 ?_)))))
   refine pM (.int _ _) ?_
   refine AW (pE (gn (Aq hk (fun hk => ?_) (fun hk => ?_))))
   ·refine A1 (A4 (pA (.int _ _) (pE (gn (Aw (gr ?_))))))
    cases hk; exact AT hO
   ·refine Ar (gn (A1 (A4 (As V0 hO 0 (.lit _ _ _) BK ?_))))
    refine pM (.int _ _) (bk hk fun v5 hv5 hk => ?_)
    refine AR (fun _ => Mj hv5) ?_
    refine pA (.int _ _) (pE (gn (A1 (A1 (A4 ?_)))))
    refine pM (.int _ _) ?_
    refine AW (pE (gn (Aq hk (fun hk => ?_) (fun hk => ?_))))
    ·refine A1 (A4 (pA (.int _ _) (pE (gn (Aw (gr ?_))))))
     cases hk; exact AT hO
    ·refine Ar (gn (A1 (A4 (As V1 hO 0 (.lit _ _ _) BK ?_))))
     refine pM (.int _ _) (bk hk fun v6 hv6 hk => ?_)
     refine AR (fun _ => Mj hv6) ?_
     refine pA (.int _ _) (pE (gn (A1 (A1 (A4 ?_)))))
     refine pM (.int _ _) ?_
     refine AW (pE (gn (Aq hk (fun hk => ?_) (fun hk => ?_))))
     ·refine A1 (A4 (pA (.int _ _) (pE (gn (Aw (gr ?_))))))
      cases hk; exact AT hO
     ·refine Ar (gn (A1 (A4 (pM (.int _ _) ?_))))
      refine pA (.int _ _) (pE (gn (Aw ?_)))
      cases hk; exact AT hO
def QN (aA0 : List Bq) : (Int × Int) → Option ((Int × Int) ⊕ Int) := fun s =>
 (bif decide (s.2 < (aA0.length : Int)) then ((AK aA0 s.2).bind fun c3 => ((eZ c3 s.1).bind fun v4 => (bif decide (v4 < (0:Int)) then ((some (-1:Int)).map Sum.inr) else some (.inl (v4, BT (s.2 + (1:Int))))))) else ((some s.1).map Sum.inr))
def gD (aA0 : List Bq) (aLeft1 : Int) : Option Int :=
 (bif decide ((BT (aLeft1 - (aA0.length : Int))) < (0:Int)) then some (-1:Int) else (AJ (QN aA0) (BT (aLeft1 - (aA0.length : Int)), (0:Int))))
theorem Yw {aA0 : List Bq} {aLeft1 : Int} {r : Int} {l1 m2 : Nat} (hk : gD aA0 aLeft1 = some r) (hlk : 0 < lk.length := by simp) : Am Tryz.prog hh 31 [AN l1 m2 aA0, iv aLeft1] H lk = some (iv r, H) := by
 refine AI Tryz.func31 rfl Tryz.ntmps31 Tryz.results31 rfl rfl fun hO => ?_
 unfold gD at hk
 refine A1 (A4 (pA (.int _ _) (pE (gn (A1 (A4 ?_))))))
 refine pM (.int _ _) ?_
 refine pM (.lit _ _ _) ?_
 refine Af aH ?_
 refine AW ?_
 refine pA (.int _ _) (pE (gn (A1 (A1 (A4 ?_)))))
 refine pM (.int _ _) ?_
 refine AW (pE (gn (Aq hk (fun hk => ?_) (fun hk => ?_))))
 ·refine A1 (A4 (pA (.int _ _) (pE (gn (Aw (gr ?_))))))
  cases hk; exact AT hO
 ·refine Ar (gn (A1 (A1 (A4 (pA (.int _ _) (pE (gn (BO ?_))))))))
  refine AA (F := QN aA0) (fun s S' => ∃ (J : Nat → V) (G : A3), A5 H G [] ∧ S' = ⟨CM [(0, AN l1 m2 aA0), (1, iv s.1), (5, iv s.2)] J, G⟩) hk ⟨_, _, hO, sh⟩ ?_
  rintro ⟨x1, x2⟩ _ y1 ⟨J, G, hO, rfl⟩ hk hx1
  refine A1 (A1 (A4 (pM (.int _ _) ?_)))
  refine pM (.lit _ _ _) ?_
  refine Af aH ?_
  refine AW (pE (gn (Aq hk (fun hk => ?_) (fun hk => ?_))))
  ·refine Ar (gn (A1 (BO (A1 (A4 (pM (.lit _ _ _) ?_))))))
   refine pM (.int _ _) (bk hk fun c3 hc3 hk => ?_)
   refine pX hc3 jO Px ?_
   refine Br (.agg [_, _, _, _, _]) (G8 (lm := m2) (off := 0) hc3 bL Px) ?_
   refine pM (.int _ _) (bk hk fun v4 hv4 hk => ?_)
   refine AR (fun _ => ZJ hv4) ?_
   refine pA (.int _ _) (pE (gn (A1 (A4 ?_))))
   refine pM (.int _ _) ?_
   refine AW (pE (gn (Aq hk (fun hk => ?_) (fun hk => ?_))))
   ·refine A1 (A4 (pA (.int _ _) (pE (gn (Aw (br (gr (gr (br (gr (have hk := lx hx1 hk; ?_)))))))))))
    cases hk; exact AT hO
   ·refine Ar (bn (gn (A4 (pM (.int _ _) ?_))))
    refine AW ?_
    refine pA (.int _ _) (pE (gn ?_))
    cases hk; exact ⟨_, rfl, _, _, hO, sh⟩
  ·refine D3 (ge (ge (be (gn (have hk := lx hx1 hk; A1 (A4 (pM (.int _ _) ?_)))))))
   refine pA (.int _ _) (pE (gn (Aw ?_)))
   cases hk; exact AT hO
def aU (aA0 : List Bool) (aLeft1 : Int) : Option Int :=
 (bif decide ((BT (aLeft1 - (aA0.length : Int))) < (0:Int)) then some (-1:Int) else some (BT (aLeft1 - (aA0.length : Int))))
theorem QP {aA0 : List Bool} {aLeft1 : Int} {r : Int} {l1 : Nat} (hk : aU aA0 aLeft1 = some r) (hlk : 0 < lk.length := by simp) : Am Tryz.prog hh 33 [AN l1 0 aA0, iv aLeft1] H lk = some (iv r, H) := by
 refine AI Tryz.func33 rfl Tryz.ntmps33 Tryz.results33 rfl rfl fun hO => ?_
 unfold aU at hk
 refine A1 (A4 (pA (.int _ _) (pE (gn (A1 (A4 ?_))))))
 refine pM (.int _ _) ?_
 refine pM (.lit _ _ _) ?_
 refine Af HO ?_
 refine AW ?_
 refine pA (.int _ _) (pE (gn (A1 (A1 (A4 ?_)))))
 refine pM (.int _ _) ?_
 refine AW (pE (gn (Aq hk (fun hk => ?_) (fun hk => ?_))))
 ·refine A1 (A4 (pA (.int _ _) (pE (gn (Aw (gr ?_))))))
  cases hk; exact AT hO
 ·refine Ar (gn (A1 (A4 (pM (.int _ _) ?_))))
  refine pA (.int _ _) (pE (gn (Aw ?_)))
  cases hk; exact AT hO
def QO (aA0 : List (List Bool)) : (Int × Int) → Option ((Int × Int) ⊕ Int) := fun s =>
 (bif decide (s.2 < (aA0.length : Int)) then ((AK aA0 s.2).bind fun c3 => ((aU c3 s.1).bind fun v4 => (bif decide (v4 < (0:Int)) then ((some (-1:Int)).map Sum.inr) else some (.inl (v4, BT (s.2 + (1:Int))))))) else ((some s.1).map Sum.inr))
def gE (aA0 : List (List Bool)) (aLeft1 : Int) : Option Int :=
 (bif decide ((BT (aLeft1 - (aA0.length : Int))) < (0:Int)) then some (-1:Int) else (AJ (QO aA0) (BT (aLeft1 - (aA0.length : Int)), (0:Int))))
theorem Yx {aA0 : List (List Bool)} {aLeft1 : Int} {r : Int} {l1 m2 : Nat} (hk : gE aA0 aLeft1 = some r) (hlk : 0 < lk.length := by simp) : Am Tryz.prog hh 32 [AN l1 m2 aA0, iv aLeft1] H lk = some (iv r, H) := by
 refine AI Tryz.func32 rfl Tryz.ntmps32 Tryz.results32 rfl rfl fun hO => ?_
 unfold gE at hk
 refine A1 (A4 (pA (.int _ _) (pE (gn (A1 (A4 ?_))))))
 refine pM (.int _ _) ?_
 refine pM (.lit _ _ _) ?_
 refine Af Lv ?_
 refine AW ?_
 refine pA (.int _ _) (pE (gn (A1 (A1 (A4 ?_)))))
 refine pM (.int _ _) ?_
 refine AW (pE (gn (Aq hk (fun hk => ?_) (fun hk => ?_))))
 ·refine A1 (A4 (pA (.int _ _) (pE (gn (Aw (gr ?_))))))
  cases hk; exact AT hO
 ·refine Ar (gn (A1 (A1 (A4 (pA (.int _ _) (pE (gn (BO ?_))))))))
  refine AA (F := QO aA0) (fun s S' => ∃ (J : Nat → V) (G : A3), A5 H G [] ∧ S' = ⟨CM [(0, AN l1 m2 aA0), (1, iv s.1), (5, iv s.2)] J, G⟩) hk ⟨_, _, hO, sh⟩ ?_
  rintro ⟨x1, x2⟩ _ y1 ⟨J, G, hO, rfl⟩ hk hx1
  refine A1 (A1 (A4 (pM (.int _ _) ?_)))
  refine pM (.lit _ _ _) ?_
  refine Af Lv ?_
  refine AW (pE (gn (Aq hk (fun hk => ?_) (fun hk => ?_))))
  ·refine Ar (gn (A1 (BO (A1 (A4 (pM (.lit _ _ _) ?_))))))
   refine pM (.int _ _) (bk hk fun c3 hc3 hk => ?_)
   refine pX hc3 IX GB ?_
   refine Br (.lit _ _ _) (D4 (lm := m2) (off := 0) hc3 C8) ?_
   refine pM (.int _ _) (bk hk fun v4 hv4 hk => ?_)
   refine AR (fun _ => QP hv4) ?_
   refine pA (.int _ _) (pE (gn (A1 (A4 ?_))))
   refine pM (.int _ _) ?_
   refine AW (pE (gn (Aq hk (fun hk => ?_) (fun hk => ?_))))
   ·refine A1 (A4 (pA (.int _ _) (pE (gn (Aw (br (gr (gr (br (gr (have hk := lx hx1 hk; ?_)))))))))))
    cases hk; exact AT hO
   ·refine Ar (bn (gn (A4 (pM (.int _ _) ?_))))
    refine AW ?_
    refine pA (.int _ _) (pE (gn ?_))
    cases hk; exact ⟨_, rfl, _, _, hO, sh⟩
  ·refine D3 (ge (ge (be (gn (have hk := lx hx1 hk; A1 (A4 (pM (.int _ _) ?_)))))))
   refine pA (.int _ _) (pE (gn (Aw ?_)))
   cases hk; exact AT hO
def f6 (aA0 : AP) (aLeft1 : Int) : Option Int :=
 ((aT aA0.A6 aLeft1).bind fun v2 => (bif decide (v2 < (0:Int)) then some (-1:Int) else ((gD aA0.A7 v2).bind fun v3 => (bif decide (v3 < (0:Int)) then some (-1:Int) else ((gE aA0.BV v3).bind fun v4 => (bif decide (v4 < (0:Int)) then some (-1:Int) else some v4))))))
theorem cW {aA0 : AP} {aLeft1 : Int} {r : Int} {l1 l2 m3 l4 m5 : Nat} (hk : f6 aA0 aLeft1 = some r) (hlk : 0 < lk.length := by simp) : Am Tryz.prog hh 6 [.agg (Ai l1 0 l2 m3 l4 m5 aA0), iv aLeft1] H lk = some (iv r, H) := by
 refine AI Tryz.func6 rfl Tryz.ntmps6 Tryz.results6 rfl rfl fun hO => ?_
 unfold f6 at hk
 refine A1 (A4 (BZ (cs := [_, _, _, _, _]) hO SX (fun b1 G hO => ?_)))
 refine pA (.int _ _) (pE (gn (A1 (A4 ?_))))
 refine As YA hO 0 (.lit _ _ _) BK ?_
 refine pM (.int _ _) (bk hk fun v2 hv2 hk => ?_)
 refine AR (fun _ => Mj hv2) ?_
 refine pA (.int _ _) (pE (gn (A1 (A1 (A4 ?_)))))
 refine pM (.int _ _) ?_
 refine AW (pE (gn (Aq hk (fun hk => ?_) (fun hk => ?_))))
 ·refine A1 (A4 (pA (.int _ _) (pE (gn (Aw (gr ?_))))))
  cases hk; exact AT hO
 ·refine Ar (gn (A1 (A4 (As YB hO 0 (.lit _ _ _) jH ?_))))
  refine pM (.int _ _) (bk hk fun v3 hv3 hk => ?_)
  refine AR (fun _ => Yw hv3) ?_
  refine pA (.int _ _) (pE (gn (A1 (A1 (A4 ?_)))))
  refine pM (.int _ _) ?_
  refine AW (pE (gn (Aq hk (fun hk => ?_) (fun hk => ?_))))
  ·refine A1 (A4 (pA (.int _ _) (pE (gn (Aw (gr ?_))))))
   cases hk; exact AT hO
  ·refine Ar (gn (A1 (A4 (As YC hO 0 (.lit _ _ _) IW ?_))))
   refine pM (.int _ _) (bk hk fun v4 hv4 hk => ?_)
   refine AR (fun _ => Yx hv4) ?_
   refine pA (.int _ _) (pE (gn (A1 (A1 (A4 ?_)))))
   refine pM (.int _ _) ?_
   refine AW (pE (gn (Aq hk (fun hk => ?_) (fun hk => ?_))))
   ·refine A1 (A4 (pA (.int _ _) (pE (gn (Aw (gr ?_))))))
    cases hk; exact AT hO
   ·refine Ar (gn (A1 (A4 (pM (.int _ _) ?_))))
    refine pA (.int _ _) (pE (gn (Aw ?_)))
    cases hk; exact AT hO
def gF (aA0 : List Al) (aLeft1 : Int) : Option Int :=
 (bif decide ((BT (aLeft1 - (aA0.length : Int))) < (0:Int)) then some (-1:Int) else some (BT (aLeft1 - (aA0.length : Int))))
theorem Yy {aA0 : List Al} {aLeft1 : Int} {r : Int} {l1 : Nat} (hk : gF aA0 aLeft1 = some r) (hlk : 0 < lk.length := by simp) : Am Tryz.prog hh 34 [AN l1 0 aA0, iv aLeft1] H lk = some (iv r, H) := by
 refine AI Tryz.func34 rfl Tryz.ntmps34 Tryz.results34 rfl rfl fun hO => ?_
 unfold gF at hk
 refine A1 (A4 (pA (.int _ _) (pE (gn (A1 (A4 ?_))))))
 refine pM (.int _ _) ?_
 refine pM (.lit _ _ _) ?_
 refine Af eK ?_
 refine AW ?_
 refine pA (.int _ _) (pE (gn (A1 (A1 (A4 ?_)))))
 refine pM (.int _ _) ?_
 refine AW (pE (gn (Aq hk (fun hk => ?_) (fun hk => ?_))))
 ·refine A1 (A4 (pA (.int _ _) (pE (gn (Aw (gr ?_))))))
  cases hk; exact AT hO
 ·refine Ar (gn (A1 (A4 (pM (.int _ _) ?_))))
  refine pA (.int _ _) (pE (gn (Aw ?_)))
  cases hk; exact AT hO
def fA (aA0 : AG) (aLeft1 : Int) : Option Int :=
 ((aU aA0.Aa aLeft1).bind fun v2 => (bif decide (v2 < (0:Int)) then some (-1:Int) else some v2))
theorem ZK {aA0 : AG} {aLeft1 : Int} {r : Int} {l1 : Nat} (hk : fA aA0 aLeft1 = some r) (hlk : 0 < lk.length := by simp) : Am Tryz.prog hh 71 [.agg [iv aA0.State, iv aA0.Ab, AN l1 0 aA0.Aa, .bool aA0.Shown, iv aA0.Timer], iv aLeft1] H lk = some (iv r, H) := by
 refine AI Tryz.func71 rfl Tryz.ntmps71 Tryz.results71 rfl rfl fun hO => ?_
 unfold fA at hk
 refine A1 (A4 (BZ (cs := [_, _, _, _, _]) hO Py (fun b1 G hO => ?_)))
 refine pA (.int _ _) (pE (gn (A1 (A4 ?_))))
 refine As V2 hO 0 (.lit _ _ _) C8 ?_
 refine pM (.int _ _) (bk hk fun v2 hv2 hk => ?_)
 refine AR (fun _ => QP hv2) ?_
 refine pA (.int _ _) (pE (gn (A1 (A1 (A4 ?_)))))
 refine pM (.int _ _) ?_
 refine AW (pE (gn (Aq hk (fun hk => ?_) (fun hk => ?_))))
 ·refine A1 (A4 (pA (.int _ _) (pE (gn (Aw (gr ?_))))))
  cases hk; exact AT hO
 ·refine Ar (gn (A1 (A4 (pM (.int _ _) ?_))))
  refine pA (.int _ _) (pE (gn (Aw ?_)))
  cases hk; exact AT hO
def QQ (aA0 : List AG) : (Int × Int) → Option ((Int × Int) ⊕ Int) := fun s =>
 (bif decide (s.2 < (aA0.length : Int)) then ((AK aA0 s.2).bind fun c3 => ((fA c3 s.1).bind fun v4 => (bif decide (v4 < (0:Int)) then ((some (-1:Int)).map Sum.inr) else some (.inl (v4, BT (s.2 + (1:Int))))))) else ((some s.1).map Sum.inr))
def gG (aA0 : List AG) (aLeft1 : Int) : Option Int :=
 (bif decide ((BT (aLeft1 - (aA0.length : Int))) < (0:Int)) then some (-1:Int) else (AJ (QQ aA0) (BT (aLeft1 - (aA0.length : Int)), (0:Int))))
theorem Yz {aA0 : List AG} {aLeft1 : Int} {r : Int} {l1 m2 : Nat} (hk : gG aA0 aLeft1 = some r) (hlk : 0 < lk.length := by simp) : Am Tryz.prog hh 35 [AN l1 m2 aA0, iv aLeft1] H lk = some (iv r, H) := by
 refine AI Tryz.func35 rfl Tryz.ntmps35 Tryz.results35 rfl rfl fun hO => ?_
 unfold gG at hk
 refine A1 (A4 (pA (.int _ _) (pE (gn (A1 (A4 ?_))))))
 refine pM (.int _ _) ?_
 refine pM (.lit _ _ _) ?_
 refine Af aI ?_
 refine AW ?_
 refine pA (.int _ _) (pE (gn (A1 (A1 (A4 ?_)))))
 refine pM (.int _ _) ?_
 refine AW (pE (gn (Aq hk (fun hk => ?_) (fun hk => ?_))))
 ·refine A1 (A4 (pA (.int _ _) (pE (gn (Aw (gr ?_))))))
  cases hk; exact AT hO
 ·refine Ar (gn (A1 (A1 (A4 (pA (.int _ _) (pE (gn (BO ?_))))))))
  refine AA (F := QQ aA0) (fun s S' => ∃ (J : Nat → V) (G : A3), A5 H G [] ∧ S' = ⟨CM [(0, AN l1 m2 aA0), (1, iv s.1), (5, iv s.2)] J, G⟩) hk ⟨_, _, hO, sh⟩ ?_
  rintro ⟨x1, x2⟩ _ y1 ⟨J, G, hO, rfl⟩ hk hx1
  refine A1 (A1 (A4 (pM (.int _ _) ?_)))
  refine pM (.lit _ _ _) ?_
  refine Af aI ?_
  refine AW (pE (gn (Aq hk (fun hk => ?_) (fun hk => ?_))))
  ·refine Ar (gn (A1 (BO (A1 (A4 (pM (.lit _ _ _) ?_))))))
   refine pM (.int _ _) (bk hk fun c3 hc3 hk => ?_)
   refine pX hc3 jP Py ?_
   refine Br (.agg [_, _, _, _, _]) (G8 (lm := m2) (off := 0) hc3 bM Py) ?_
   refine pM (.int _ _) (bk hk fun v4 hv4 hk => ?_)
   refine AR (fun _ => ZK hv4) ?_
   refine pA (.int _ _) (pE (gn (A1 (A4 ?_))))
   refine pM (.int _ _) ?_
   refine AW (pE (gn (Aq hk (fun hk => ?_) (fun hk => ?_))))
   ·refine A1 (A4 (pA (.int _ _) (pE (gn (Aw (br (gr (gr (br (gr (have hk := lx hx1 hk; ?_)))))))))))
    cases hk; exact AT hO
   ·refine Ar (bn (gn (A4 (pM (.int _ _) ?_))))
    refine AW ?_
    refine pA (.int _ _) (pE (gn ?_))
    cases hk; exact ⟨_, rfl, _, _, hO, sh⟩
  ·refine D3 (ge (ge (be (gn (have hk := lx hx1 hk; A1 (A4 (pM (.int _ _) ?_)))))))
   refine pA (.int _ _) (pE (gn (Aw ?_)))
   cases hk; exact AT hO
def f7 (aA0 : AD) (aLeft1 : Int) : Option Int :=
 ((aU aA0.C5 aLeft1).bind fun v2 => (bif decide (v2 < (0:Int)) then some (-1:Int) else ((gF aA0.AF v2).bind fun v3 => (bif decide (v3 < (0:Int)) then some (-1:Int) else ((gG aA0.A7 v3).bind fun v4 => (bif decide (v4 < (0:Int)) then some (-1:Int) else some v4))))))
theorem dD {aA0 : AD} {aLeft1 : Int} {r : Int} {l1 l2 l3 m4 : Nat} (hk : f7 aA0 aLeft1 = some r) (hlk : 0 < lk.length := by simp) : Am Tryz.prog hh 7 [.agg (Ah l1 0 l2 0 l3 m4 aA0), iv aLeft1] H lk = some (iv r, H) := by
 refine AI Tryz.func7 rfl Tryz.ntmps7 Tryz.results7 rfl rfl fun hO => ?_
 unfold f7 at hk
 refine A1 (A4 (BZ (cs := [_, _, _, _]) hO SY (fun b1 G hO => ?_)))
 refine pA (.int _ _) (pE (gn (A1 (A4 ?_))))
 refine As YD hO 0 (.lit _ _ _) C8 ?_
 refine pM (.int _ _) (bk hk fun v2 hv2 hk => ?_)
 refine AR (fun _ => QP hv2) ?_
 refine pA (.int _ _) (pE (gn (A1 (A1 (A4 ?_)))))
 refine pM (.int _ _) ?_
 refine AW (pE (gn (Aq hk (fun hk => ?_) (fun hk => ?_))))
 ·refine A1 (A4 (pA (.int _ _) (pE (gn (Aw (gr ?_))))))
  cases hk; exact AT hO
 ·refine Ar (gn (A1 (A4 (As YE hO 0 (.lit _ _ _) jI ?_))))
  refine pM (.int _ _) (bk hk fun v3 hv3 hk => ?_)
  refine AR (fun _ => Yy hv3) ?_
  refine pA (.int _ _) (pE (gn (A1 (A1 (A4 ?_)))))
  refine pM (.int _ _) ?_
  refine AW (pE (gn (Aq hk (fun hk => ?_) (fun hk => ?_))))
  ·refine A1 (A4 (pA (.int _ _) (pE (gn (Aw (gr ?_))))))
   cases hk; exact AT hO
  ·refine Ar (gn (A1 (A4 (As YF hO 0 (.lit _ _ _) jJ ?_))))
   refine pM (.int _ _) (bk hk fun v4 hv4 hk => ?_)
   refine AR (fun _ => Yz hv4) ?_
   refine pA (.int _ _) (pE (gn (A1 (A1 (A4 ?_)))))
   refine pM (.int _ _) ?_
   refine AW (pE (gn (Aq hk (fun hk => ?_) (fun hk => ?_))))
   ·refine A1 (A4 (pA (.int _ _) (pE (gn (Aw (gr ?_))))))
    cases hk; exact AT hO
   ·refine Ar (gn (A1 (A4 (pM (.int _ _) ?_))))
    refine pA (.int _ _) (pE (gn (Aw ?_)))
    cases hk; exact AT hO
def NM (aA0 : List Int) : ((List Int) × Int) → Option (((List Int) × Int) ⊕ (List Int)) := fun s =>
 (bif decide (s.2 < (aA0.length : Int)) then ((AK aA0 s.2).bind fun c5 => ((AK s.1 s.2).bind fun c6 => some (.inl (s.1.set s.2.toNat c5, BT (s.2 + (1:Int)))))) else ((some s.1).map Sum.inr))
def aV (aA0 : List Int) : Option (List Int) :=
 ((GF 8 (aA0.length : Int)).bind fun m1 => (AJ (NM aA0) (List.replicate m1 (0 : Int), (0:Int))))
theorem Mk {aA0 : List Int} {r : (List Int)} {l1 : Nat} (hk : aV aA0 = some r) (hlk : 0 < lk.length := by simp) : ∃ v H1, Am Tryz.prog hh 39 [AN l1 0 aA0] H lk = some (v, H1) ∧ FV H r v H1 := by
 refine B0 Tryz.func39 rfl Tryz.ntmps39 Tryz.results39 rfl rfl ?_
 have hO := A5.nil H
 unfold aV at hk
 refine A1 (A4 (pA (.tl 0 []) (pE (gn (A1 (A4 ?_))))))
 refine pM (.lit _ _ _) ?_
 refine Af D5 (bk hk fun m1 hm1 hk => ?_)
 refine fG hO hm1 (0 : Int) C4 DP W8 MO (fun b2 G hO => ?_)
 refine pA (.sl _ _ _) (pE (gn (A1 (A1 (A4 ?_)))))
 refine pA (.int _ _) (pE (gn (BO ?_)))
 refine AA (F := NM aA0) (fun s S' => ∃ (J : Nat → V) (G : A3), s.1.length = m1 ∧ A5 H G [.Ad b2 (.cells 1 (A8 0 s.1))] ∧ S' = ⟨CM [(0, AN l1 0 aA0), (3, .sl b2 0 m1), (4, iv s.2)] J, G⟩) hk ⟨_, _, List.length_replicate, hO, sh⟩ ?_
 rintro ⟨x3, x4⟩ _ y1 ⟨J, G, hl3, hO, rfl⟩ hk hx1
 refine A1 (A1 (A4 (pM (.int _ _) ?_)))
 refine pM (.lit _ _ _) ?_
 refine Af D5 ?_
 refine AW (pE (gn (Aq hk (fun hk => ?_) (fun hk => ?_))))
 ·refine Ar (gn (A1 (BO (A4 (pM (.sl _ _ _) ?_)))))
  refine pM (.int _ _) ?_
  refine pM (.lit _ _ _) ?_
  refine pM (.int _ _) (bk hk fun c5 hc5 hk => ?_)
  refine pX hc5 C4 DP ?_
  refine Br (.int _ _) (D4 (lm := 0) (off := 0) hc5 BU) (bk hk fun c6 hc6 hk => ?_)
  refine kK hl3 hc6 C4 DP ?_
  refine kJ hO 0 hc6 DP rfl c5 (.int _ _) (fun G hO => pE (bn (gn (A4 ?_))))
  refine pM (.int _ _) ?_
  refine AW ?_
  refine pA (.int _ _) (pE (gn ?_))
  cases hk; exact ⟨_, rfl, _, _, (List.length_set.trans hl3), hO, sh⟩
 ·refine D3 (ge (ge (be (gn (have hk := lx hx1 hk; A1 (A4 (pM (.sl _ _ _) ?_)))))))
  refine pA (.sl _ _ _) (pE (gn (Aw ?_)))
  replace hk := Option.some.inj hk; subst hk; exact HF hO (L0 (xs := x3) hl3 hlk 0) (JB (.sl _ _ _) Dl)
def Wj (aA0 : Ae) : Option Ae :=
 some aA0
theorem Wk {aA0 : Ae} {r : Ae} (hk : Wj aA0 = some r) (hlk : 0 < lk.length := by simp) : Am Tryz.prog hh 121 [.agg [iv aA0.Switch, iv aA0.FC]] H lk = some (.agg [iv r.Switch, iv r.FC], H) := by
 refine AI Tryz.func121 rfl Tryz.ntmps121 Tryz.results121 rfl rfl fun hO => ?_
 unfold Wj at hk
 refine A1 (A4 (BZ (cs := [_, _]) hO YI (fun b1 G hO => CK hO BB FT (fun b2 G hO => pE (gn (A1 (A4 (CK hO BB FT (fun b3 G hO => pE (gn (A1 (A4 ?_))))))))))))
 refine As aF hO 2 (.int _ _) BU ?_
 refine pF CP ?_
 refine Cs (xs := [_]) hO 0 DP rfl (fun G hO => pE (gn (A1 (A4 ?_))))
 refine As aG hO 2 (.int _ _) BU ?_
 refine pF E7 ?_
 refine Cs (xs := [_]) hO 0 DP rfl (fun G hO => pE (gn (A1 (A4 ?_))))
 refine E4 hO 0 [_, _] G3 BB ?_
 refine Cs (xs := [_, _]) hO 1 BB rfl (fun G hO => pE (gn (Aw ?_)))
 replace hk := Option.some.inj hk; subst hk; exact Gp hO (Ds (n := 2) (DL (C7 _ _) (DL (C7 _ _) (HX)))) (G9 hO 1 [_, _] G3 BB Dl)
def KH (aA0 : List Ae) : ((List Ae) × Int) → Option (((List Ae) × Int) ⊕ (List Ae)) := fun s =>
 (bif decide (s.2 < (aA0.length : Int)) then ((AK aA0 s.2).bind fun c5 => ((Wj c5).bind fun v6 => ((AK s.1 s.2).bind fun c7 => some (.inl (s.1.set s.2.toNat v6, BT (s.2 + (1:Int))))))) else ((some s.1).map Sum.inr))
def VP (aA0 : List Ae) : Option (List Ae) :=
 ((GF 16 (aA0.length : Int)).bind fun m1 => (AJ (KH aA0) (List.replicate m1 (⟨0, 0⟩ : Ae), (0:Int))))
theorem Rg {aA0 : List Ae} {r : (List Ae)} {l1 : Nat} (hk : VP aA0 = some r) (hlk : 0 < lk.length := by simp) : ∃ v H1, Am Tryz.prog hh 106 [AN l1 0 aA0] H lk = some (v, H1) ∧ FV H r v H1 := by
 refine B0 Tryz.func106 rfl Tryz.ntmps106 Tryz.results106 rfl rfl ?_
 have hO := A5.nil H
 unfold VP at hk
 refine A1 (A4 (pA (.tl 0 []) (pE (gn (A1 (A4 ?_))))))
 refine pM (.lit _ _ _) ?_
 refine Af YG (bk hk fun m1 hm1 hk => ?_)
 refine fG hO hm1 (⟨0, 0⟩ : Ae) Df BB SW FT (fun b2 G hO => ?_)
 refine pA (.sl _ _ _) (pE (gn (A1 (A1 (A4 ?_)))))
 refine pA (.int _ _) (pE (gn (BO ?_)))
 refine AA (F := KH aA0) (fun s S' => ∃ (J : Nat → V) (G : A3), s.1.length = m1 ∧ A5 H G [.Ad b2 (.cells 2 (A8 0 s.1))] ∧ S' = ⟨CM [(0, AN l1 0 aA0), (3, .sl b2 0 m1), (4, iv s.2)] J, G⟩) hk ⟨_, _, List.length_replicate, hO, sh⟩ ?_
 rintro ⟨x3, x4⟩ _ y1 ⟨J, G, hl3, hO, rfl⟩ hk hx1
 refine A1 (A1 (A4 (pM (.int _ _) ?_)))
 refine pM (.lit _ _ _) ?_
 refine Af YG ?_
 refine AW (pE (gn (Aq hk (fun hk => ?_) (fun hk => ?_))))
 ·refine Ar (gn (A1 (BO (A4 (pM (.sl _ _ _) ?_)))))
  refine pM (.int _ _) ?_
  refine pM (.lit _ _ _) ?_
  refine pM (.int _ _) (bk hk fun c5 hc5 hk => ?_)
  refine pX hc5 jN YI ?_
  refine Br (.agg [_, _]) (G8 (lm := 0) (off := 0) hc5 jG YI) (bk hk fun v6 hv6 hk => ?_)
  refine AR (fun _ => Wk hv6) (bk hk fun c7 hc7 hk => ?_)
  refine kK hl3 hc7 Df BB ?_
  refine kJ hO 0 hc7 BB rfl v6 (.agg [_, _]) (fun G hO => pE (bn (gn (A4 ?_))))
  refine pM (.int _ _) ?_
  refine AW ?_
  refine pA (.int _ _) (pE (gn ?_))
  cases hk; exact ⟨_, rfl, _, _, (List.length_set.trans hl3), hO, sh⟩
 ·refine D3 (ge (ge (be (gn (have hk := lx hx1 hk; A1 (A4 (pM (.sl _ _ _) ?_)))))))
  refine pA (.sl _ _ _) (pE (gn (Aw ?_)))
  replace hk := Option.some.inj hk; subst hk; exact HF hO (L0 (xs := x3) hl3 hlk 0) (JB (.sl _ _ _) Dl)
def gY (aA0 : Bq) : Option Bq :=
 ((aV aA0.A0).bind fun v4 => ((VP aA0.AQ).bind fun v7 => ((VP aA0.AH).bind fun v10 => ((aV aA0.Bt).bind fun v13 => ((aV aA0.DB).bind fun v16 => some ({ A0 := v4, AQ := v7, AH := v10, Bt := v13, DB := v16 } : Bq))))))
theorem ZP {aA0 : Bq} {r : Bq} {l1 l2 l3 l4 l5 : Nat} (hk : gY aA0 = some r) (hlk : 0 < lk.length := by simp) : ∃ v H1, Am Tryz.prog hh 76 [.agg (Cn l1 0 l2 0 l3 0 l4 0 l5 0 aA0)] H lk = some (v, H1) ∧ Hn H r v H1 := by
 refine B0 Tryz.func76 rfl Tryz.ntmps76 Tryz.results76 rfl rfl ?_
 have hO := A5.nil H
 unfold gY at hk
 refine A1 (A4 (BZ (cs := [_, _, _, _, _]) hO Px (fun b1 G hO => CK hO Az IU (fun b2 G hO => pE (gn (A1 (A4 (CK hO Az IU (fun b3 G hO => pE (gn (A1 (A4 ?_))))))))))))
 refine As Ux hO 2 (.lit _ _ _) BK (bk hk fun v4 hv4 hk => ?_)
 refine Sj hO (fun _ => Mk hv4) (fun u5 F5 G hO => ?_)
 refine pF BI ?_
 have hc6 := B6 hO (j := 0) rfl
 refine Cs (xs := [_]) hO 1 Kx rfl (fun G hO => ?_) (h3 := hc6.1) (h6 := Bg hc6.2)
 refine pE (gn (A1 (A4 (As Uy hO 3 (.lit _ _ _) Uv (bk hk fun v7 hv7 hk => ?_)))))
 refine Sj hO (fun _ => Rg hv7) (fun u8 F8 G hO => ?_)
 refine pF E6 ?_
 have hc9 := B6 hO (j := 0) rfl
 refine Cs (xs := [_]) hO 2 Pz rfl (fun G hO => ?_) (h3 := hc9.1) (h6 := Bg hc9.2)
 refine pE (gn (A1 (A4 (As Uz hO 4 (.lit _ _ _) Uv (bk hk fun v10 hv10 hk => ?_)))))
 refine Sj hO (fun _ => Rg hv10) (fun u11 F11 G hO => ?_)
 refine pF EU ?_
 have hc12 := B6 hO (j := 0) rfl
 refine Cs (xs := [_]) hO 3 Pz rfl (fun G hO => ?_) (h3 := hc12.1) (h6 := Bg hc12.2)
 refine pE (gn (A1 (A4 (As V0 hO 5 (.lit _ _ _) BK (bk hk fun v13 hv13 hk => ?_)))))
 refine Sj hO (fun _ => Mk hv13) (fun u14 F14 G hO => ?_)
 refine pF DU ?_
 have hc15 := B6 hO (j := 0) rfl
 refine Cs (xs := [_]) hO 4 Kx rfl (fun G hO => ?_) (h3 := hc15.1) (h6 := Bg hc15.2)
 refine pE (gn (A1 (A4 (As V1 hO 6 (.lit _ _ _) BK (bk hk fun v16 hv16 hk => ?_)))))
 refine Sj hO (fun _ => Mk hv16) (fun u17 F17 G hO => ?_)
 refine pF JY ?_
 have hc18 := B6 hO (j := 0) rfl
 refine Cs (xs := [_]) hO 5 Kx rfl (fun G hO => ?_) (h3 := hc18.1) (h6 := Bg hc18.2)
 refine pE (gn (A1 (A4 (E4 hO 5 [_, _, _, _, _] Ew Az ?_))))
 have hc19 := B6 hO (j := 4) rfl
 have hc20 := B6 hO (j := 3) rfl
 have hc21 := B6 hO (j := 2) rfl
 have hc22 := B6 hO (j := 1) rfl
 have hc23 := B6 hO (j := 0) rfl
 refine Cs (xs := [_, _, _, _, _]) hO 6 Az rfl (fun G hO => ?_) (h6 := (Bj hc19.2 (Bj hc20.2 (Bj hc21.2 (Bj hc22.2 (Bj hc23.2 IM))))))
 refine pE (gn (Aw ?_))
 replace hk := Option.some.inj hk; subst hk; exact Jx hO (eN (x := ({ A0 := v4, AQ := v7, AH := v10, Bt := v13, DB := v16 } : Bq)) (CD (c1 := [_]) (Cv (x := v4) 4) (CD (c1 := [_]) (Cv (x := v7) 3) (CD (c1 := [_]) (Cv (x := v10) 2) (CD (c1 := [_]) (Cv (x := v13) 1) (Cv (x := v16) 0)))))) (G9 hO 6 [_, _, _, _, _] Ew Az Dl)
def NN (aA0 : List Bq) : ((List Bq) × Int) → Option (((List Bq) × Int) ⊕ (List Bq)) := fun s =>
 (bif decide (s.2 < (aA0.length : Int)) then ((AK aA0 s.2).bind fun c7 => ((gY c7).bind fun v8 => ((AK s.1 s.2).bind fun c10 => some (.inl (s.1.set s.2.toNat v8, BT (s.2 + (1:Int))))))) else ((some s.1).map Sum.inr))
def gI (aA0 : List Bq) : Option (List Bq) :=
 ((GF 120 (aA0.length : Int)).bind fun m1 => (AJ (NN aA0) (List.replicate m1 (⟨[], [], [], [], []⟩ : Bq), (0:Int))))
theorem Z1 {aA0 : List Bq} {r : (List Bq)} {l1 m2 : Nat} (hk : gI aA0 = some r) (hlk : 0 < lk.length := by simp) : ∃ v H1, Am Tryz.prog hh 40 [AN l1 m2 aA0] H lk = some (v, H1) ∧ FV H r v H1 := by
 refine B0 Tryz.func40 rfl Tryz.ntmps40 Tryz.results40 rfl rfl ?_
 have hO := A5.nil H
 unfold gI at hk
 refine A1 (A4 (pA (.tl 0 []) (pE (gn (A1 (A4 ?_))))))
 refine pM (.lit _ _ _) ?_
 refine Af aH (bk hk fun m1 hm1 hk => ?_)
 refine dZ hO hm1 (⟨[], [], [], [], []⟩ : Bq) Er Az jK IU (fun G => (show Ao.tr G (⟨[], [], [], [], []⟩ : Bq) [(.tl 0 []), (.tl 0 []), (.tl 0 []), (.tl 0 []), (.tl 0 [])] [] from ⟨[_], _, [], [], rfl, rfl, .inl ⟨rfl, rfl, rfl⟩, ⟨[_], _, [], [], rfl, rfl, .inl ⟨rfl, rfl, rfl⟩, ⟨[_], _, [], [], rfl, rfl, .inl ⟨rfl, rfl, rfl⟩, ⟨[_], _, [], [], rfl, rfl, .inl ⟨rfl, rfl, rfl⟩, .inl ⟨rfl, rfl, rfl⟩⟩⟩⟩⟩)) (fun b2 G hO => ?_)
 refine pA (.sl b2 0 m1) (pE (gn (A1 (A1 (A4 ?_)))))
 refine pA (.int _ _) (pE (gn (BO ?_)))
 refine AA (F := NN aA0) (fun s S' => ∃ (F5 : List Nat) (J : Nat → V) (G : A3), A5 H G [AY [] F5 s.1 [.sl b2 0 m1]] ∧ S' = ⟨CM [(0, AN l1 m2 aA0), (3, (.sl b2 0 m1)), (4, iv s.2)] J, G⟩) hk ⟨[b2], _, _, hO, sh⟩ ?_
 rintro ⟨x4, x6⟩ _ y1 ⟨F5, J, G, hO, rfl⟩ hk hx1
 refine A1 (A1 (A4 (pM (.int _ _) ?_)))
 refine pM (.lit _ _ _) ?_
 refine Af aH ?_
 refine AW (pE (gn (Aq hk (fun hk => ?_) (fun hk => ?_))))
 ·refine Ar (gn (A1 (BO (A4 (pM (.sl b2 0 m1) ?_)))))
  refine pM (.int _ _) ?_
  refine pM (.lit _ _ _) ?_
  refine pM (.int _ _) (bk hk fun c7 hc7 hk => ?_)
  refine pX hc7 jO Px ?_
  refine Br (.agg [_, _, _, _, _]) (G8 (lm := m2) (off := 0) hc7 bL Px) (bk hk fun v8 hv8 hk => ?_)
  refine Lj hO (fun _ => ZP hv8) (fun u9 F9 G hO => bk hk fun c10 hc10 hk => ?_)
  refine L7 hO 1 hc10 Er Az (fun b11 hb11 => ?_)
  refine e6 hO 0 hb11 hc10 Az rfl (fun G hO => pE (bn (gn (A4 ?_))))
  refine pM (.int _ _) ?_
  refine AW ?_
  refine pA (.int _ _) (pE (gn ?_))
  cases hk; exact ⟨_, rfl, (F5 ++ F9), _, _, hO, sh⟩
 ·refine D3 (ge (ge (be (gn (have hk := lx hx1 hk; A1 (A4 (pM (.sl b2 0 m1) ?_)))))))
  refine pA (.sl b2 0 m1) (pE (gn (Aw ?_)))
  replace hk := Option.some.inj hk; subst hk; exact HF hO (Cv (x := x4) 0) (JB (.sl b2 0 m1) Dl)
def NP (aA0 : List Bool) : ((List Bool) × Int) → Option (((List Bool) × Int) ⊕ (List Bool)) := fun s =>
 (bif decide (s.2 < (aA0.length : Int)) then ((AK aA0 s.2).bind fun c5 => ((AK s.1 s.2).bind fun c6 => some (.inl (s.1.set s.2.toNat c5, BT (s.2 + (1:Int)))))) else ((some s.1).map Sum.inr))
def cM (aA0 : List Bool) : Option (List Bool) :=
 ((GF 1 (aA0.length : Int)).bind fun m1 => (AJ (NP aA0) (List.replicate m1 (false : Bool), (0:Int))))
theorem QU {aA0 : List Bool} {r : (List Bool)} {l1 : Nat} (hk : cM aA0 = some r) (hlk : 0 < lk.length := by simp) : ∃ v H1, Am Tryz.prog hh 42 [AN l1 0 aA0] H lk = some (v, H1) ∧ FV H r v H1 := by
 refine B0 Tryz.func42 rfl Tryz.ntmps42 Tryz.results42 rfl rfl ?_
 have hO := A5.nil H
 unfold cM at hk
 refine A1 (A4 (pA (.tl 0 []) (pE (gn (A1 (A4 ?_))))))
 refine pM (.lit _ _ _) ?_
 refine Af HO (bk hk fun m1 hm1 hk => ?_)
 refine fG hO hm1 (false : Bool) Cl FO eF bK (fun b2 G hO => ?_)
 refine pA (.sl _ _ _) (pE (gn (A1 (A1 (A4 ?_)))))
 refine pA (.int _ _) (pE (gn (BO ?_)))
 refine AA (F := NP aA0) (fun s S' => ∃ (J : Nat → V) (G : A3), s.1.length = m1 ∧ A5 H G [.Ad b2 (.cells 1 (A8 0 s.1))] ∧ S' = ⟨CM [(0, AN l1 0 aA0), (3, .sl b2 0 m1), (4, iv s.2)] J, G⟩) hk ⟨_, _, List.length_replicate, hO, sh⟩ ?_
 rintro ⟨x3, x4⟩ _ y1 ⟨J, G, hl3, hO, rfl⟩ hk hx1
 refine A1 (A1 (A4 (pM (.int _ _) ?_)))
 refine pM (.lit _ _ _) ?_
 refine Af HO ?_
 refine AW (pE (gn (Aq hk (fun hk => ?_) (fun hk => ?_))))
 ·refine Ar (gn (A1 (BO (A4 (pM (.sl _ _ _) ?_)))))
  refine pM (.int _ _) ?_
  refine pM (.lit _ _ _) ?_
  refine pM (.int _ _) (bk hk fun c5 hc5 hk => ?_)
  refine pX hc5 Cl FO ?_
  refine Br (.bool _) (D4 (lm := 0) (off := 0) hc5 Fk) (bk hk fun c6 hc6 hk => ?_)
  refine kK hl3 hc6 Cl FO ?_
  refine kJ hO 0 hc6 FO rfl c5 (.bool _) (fun G hO => pE (bn (gn (A4 ?_))))
  refine pM (.int _ _) ?_
  refine AW ?_
  refine pA (.int _ _) (pE (gn ?_))
  cases hk; exact ⟨_, rfl, _, _, (List.length_set.trans hl3), hO, sh⟩
 ·refine D3 (ge (ge (be (gn (have hk := lx hx1 hk; A1 (A4 (pM (.sl _ _ _) ?_)))))))
  refine pA (.sl _ _ _) (pE (gn (Aw ?_)))
  replace hk := Option.some.inj hk; subst hk; exact HF hO (L0 (xs := x3) hl3 hlk 0) (JB (.sl _ _ _) Dl)
def NO (aA0 : List (List Bool)) : ((List (List Bool)) × Int) → Option (((List (List Bool)) × Int) ⊕ (List (List Bool))) := fun s =>
 (bif decide (s.2 < (aA0.length : Int)) then ((AK aA0 s.2).bind fun c7 => ((cM c7).bind fun v8 => ((AK s.1 s.2).bind fun c10 => some (.inl (s.1.set s.2.toNat v8, BT (s.2 + (1:Int))))))) else ((some s.1).map Sum.inr))
def gJ (aA0 : List (List Bool)) : Option (List (List Bool)) :=
 ((GF 24 (aA0.length : Int)).bind fun m1 => (AJ (NO aA0) (List.replicate m1 ([] : List Bool), (0:Int))))
theorem Z2 {aA0 : List (List Bool)} {r : (List (List Bool))} {l1 m2 : Nat} (hk : gJ aA0 = some r) (hlk : 0 < lk.length := by simp) : ∃ v H1, Am Tryz.prog hh 41 [AN l1 m2 aA0] H lk = some (v, H1) ∧ FV H r v H1 := by
 refine B0 Tryz.func41 rfl Tryz.ntmps41 Tryz.results41 rfl rfl ?_
 have hO := A5.nil H
 unfold gJ at hk
 refine A1 (A4 (pA (.tl 0 []) (pE (gn (A1 (A4 ?_))))))
 refine pM (.lit _ _ _) ?_
 refine Af Lv (bk hk fun m1 hm1 hk => ?_)
 refine dZ hO hm1 ([] : List Bool) IX GB lY lX (fun G => (show Ao.tr G ([] : List Bool) [(.tl 0 [])] [] from .inl ⟨rfl, rfl, rfl⟩)) (fun b2 G hO => ?_)
 refine pA (.sl b2 0 m1) (pE (gn (A1 (A1 (A4 ?_)))))
 refine pA (.int _ _) (pE (gn (BO ?_)))
 refine AA (F := NO aA0) (fun s S' => ∃ (F5 : List Nat) (J : Nat → V) (G : A3), A5 H G [AY [] F5 s.1 [.sl b2 0 m1]] ∧ S' = ⟨CM [(0, AN l1 m2 aA0), (3, (.sl b2 0 m1)), (4, iv s.2)] J, G⟩) hk ⟨[b2], _, _, hO, sh⟩ ?_
 rintro ⟨x4, x6⟩ _ y1 ⟨F5, J, G, hO, rfl⟩ hk hx1
 refine A1 (A1 (A4 (pM (.int _ _) ?_)))
 refine pM (.lit _ _ _) ?_
 refine Af Lv ?_
 refine AW (pE (gn (Aq hk (fun hk => ?_) (fun hk => ?_))))
 ·refine Ar (gn (A1 (BO (A4 (pM (.sl b2 0 m1) ?_)))))
  refine pM (.int _ _) ?_
  refine pM (.lit _ _ _) ?_
  refine pM (.int _ _) (bk hk fun c7 hc7 hk => ?_)
  refine pX hc7 IX GB ?_
  refine Br (.lit _ _ _) (D4 (lm := m2) (off := 0) hc7 C8) (bk hk fun v8 hv8 hk => ?_)
  refine Sj hO (fun _ => QU hv8) (fun u9 F9 G hO => bk hk fun c10 hc10 hk => ?_)
  refine L7 hO 1 hc10 IX GB (fun b11 hb11 => ?_)
  refine e6 hO 0 hb11 hc10 GB rfl (fun G hO => ?_) (h3 := (B6 hO (j := 0) rfl).1)
  refine pE (bn (gn (A4 (pM (.int _ _) ?_))))
  refine AW ?_
  refine pA (.int _ _) (pE (gn ?_))
  cases hk; exact ⟨_, rfl, (F5 ++ F9), _, _, hO, sh⟩
 ·refine D3 (ge (ge (be (gn (have hk := lx hx1 hk; A1 (A4 (pM (.sl b2 0 m1) ?_)))))))
  refine pA (.sl b2 0 m1) (pE (gn (Aw ?_)))
  replace hk := Option.some.inj hk; subst hk; exact HF hO (Cv (x := x4) 0) (JB (.sl b2 0 m1) Dl)
def f9 (aA0 : AP) : Option AP :=
 ((aV aA0.A6).bind fun v4 => ((gI aA0.A7).bind fun v7 => ((gJ aA0.BV).bind fun v10 => some ({ A0 := aA0.A0, A6 := v4, A7 := v7, BV := v10, E8 := aA0.E8 } : AP))))
theorem Qf {aA0 : AP} {r : AP} {l1 l2 m3 l4 m5 : Nat} (hk : f9 aA0 = some r) (hlk : 0 < lk.length := by simp) : ∃ v H1, Am Tryz.prog hh 9 [.agg (Ai l1 0 l2 m3 l4 m5 aA0)] H lk = some (v, H1) ∧ Hn H r v H1 := by
 refine B0 Tryz.func9 rfl Tryz.ntmps9 Tryz.results9 rfl rfl ?_
 have hO := A5.nil H
 unfold f9 at hk
 refine A1 (A4 (BZ (cs := [_, _, _, _, _]) hO SX (fun b1 G hO => CK hO CC eE (fun b2 G hO => pE (gn (A1 (A4 (CK hO CC eE (fun b3 G hO => pE (gn (A1 (A4 ?_))))))))))))
 refine As eH hO 2 (.int _ _) BU ?_
 refine pF EK ?_
 refine Cs (xs := [_]) hO 0 DP rfl (fun G hO => pE (gn (A1 (A4 ?_))))
 refine As YA hO 2 (.lit _ _ _) BK (bk hk fun v4 hv4 hk => ?_)
 refine Sj hO (fun _ => Mk hv4) (fun u5 F5 G hO => ?_)
 refine pF DE ?_
 have hc6 := B6 hO (j := 0) rfl
 refine Cs (xs := [_]) hO 1 Kx rfl (fun G hO => ?_) (h3 := hc6.1) (h6 := Bg hc6.2)
 refine pE (gn (A1 (A4 (As YB hO 3 (.lit _ _ _) jH (bk hk fun v7 hv7 hk => ?_)))))
 refine Sj hO (fun _ => Z1 hv7) (fun u8 F8 G hO => ?_)
 refine pF Bl ?_
 have hc9 := B6 hO (j := 0) rfl
 refine Cs (xs := [_]) hO 2 mB rfl (fun G hO => ?_) (h3 := hc9.1) (h6 := Bg hc9.2)
 refine pE (gn (A1 (A4 (As YC hO 4 (.lit _ _ _) IW (bk hk fun v10 hv10 hk => ?_)))))
 refine Sj hO (fun _ => Z2 hv10) (fun u11 F11 G hO => ?_)
 refine pF EL ?_
 have hc12 := B6 hO (j := 0) rfl
 refine Cs (xs := [_]) hO 3 mA rfl (fun G hO => ?_) (h3 := hc12.1) (h6 := Bg hc12.2)
 refine pE (gn (A1 (A4 (As eI hO 5 (.int _ _) BU ?_))))
 refine pF K6 ?_
 refine Cs (xs := [_]) hO 3 DP rfl (fun G hO => pE (gn (A1 (A4 ?_))))
 refine E4 hO 3 [_, _, _, _, _] FB CC ?_
 have hc13 := B6 hO (j := 2) rfl
 have hc14 := B6 hO (j := 1) rfl
 have hc15 := B6 hO (j := 0) rfl
 refine Cs (xs := [_, _, _, _, _]) hO 4 CC rfl (fun G hO => ?_) (h6 := (Bj rfl (Bj hc13.2 (Bj hc14.2 (Bj hc15.2 (Bj rfl IM))))))
 refine pE (gn (Aw ?_))
 replace hk := Option.some.inj hk; subst hk; exact Jx hO (aJ (x := ({ A0 := aA0.A0, A6 := v4, A7 := v7, BV := v10, E8 := aA0.E8 } : AP)) (CD (c1 := [_]) (JE aA0.A0) (CD (c1 := [_]) (Cv (x := v4) 2) (CD (c1 := [_]) (Cv (x := v7) 1) (CD (c1 := [_]) (Cv (x := v10) 0) (JE aA0.E8)))))) (G9 hO 4 [_, _, _, _, _] FB CC Dl)
def gZ (aA0 : Al) : Option Al :=
 some aA0
theorem ZQ {aA0 : Al} {r : Al} (hk : gZ aA0 = some r) (hlk : 0 < lk.length := by simp) : Am Tryz.prog hh 77 [.agg [iv aA0.Want, iv aA0.AQ]] H lk = some (.agg [iv r.Want, iv r.AQ], H) := by
 refine AI Tryz.func77 rfl Tryz.ntmps77 Tryz.results77 rfl rfl fun hO => ?_
 unfold gZ at hk
 refine A1 (A4 (BZ (cs := [_, _]) hO YH (fun b1 G hO => CK hO EA SV (fun b2 G hO => pE (gn (A1 (A4 (CK hO EA SV (fun b3 G hO => pE (gn (A1 (A4 ?_))))))))))))
 refine As aC hO 2 (.int _ _) BU ?_
 refine pF II ?_
 refine Cs (xs := [_]) hO 0 DP rfl (fun G hO => pE (gn (A1 (A4 ?_))))
 refine As aD hO 2 (.int _ _) BU ?_
 refine pF K7 ?_
 refine Cs (xs := [_]) hO 0 DP rfl (fun G hO => pE (gn (A1 (A4 ?_))))
 refine E4 hO 0 [_, _] RN EA ?_
 refine Cs (xs := [_, _]) hO 1 EA rfl (fun G hO => pE (gn (Aw ?_)))
 replace hk := Option.some.inj hk; subst hk; exact Gp hO (Ds (n := 2) (DL (C7 _ _) (DL (C7 _ _) (HX)))) (G9 hO 1 [_, _] RN EA Dl)
def NQ (aA0 : List Al) : ((List Al) × Int) → Option (((List Al) × Int) ⊕ (List Al)) := fun s =>
 (bif decide (s.2 < (aA0.length : Int)) then ((AK aA0 s.2).bind fun c5 => ((gZ c5).bind fun v6 => ((AK s.1 s.2).bind fun c7 => some (.inl (s.1.set s.2.toNat v6, BT (s.2 + (1:Int))))))) else ((some s.1).map Sum.inr))
def gK (aA0 : List Al) : Option (List Al) :=
 ((GF 16 (aA0.length : Int)).bind fun m1 => (AJ (NQ aA0) (List.replicate m1 (⟨0, 0⟩ : Al), (0:Int))))
theorem Z3 {aA0 : List Al} {r : (List Al)} {l1 : Nat} (hk : gK aA0 = some r) (hlk : 0 < lk.length := by simp) : ∃ v H1, Am Tryz.prog hh 43 [AN l1 0 aA0] H lk = some (v, H1) ∧ FV H r v H1 := by
 refine B0 Tryz.func43 rfl Tryz.ntmps43 Tryz.results43 rfl rfl ?_
 have hO := A5.nil H
 unfold gK at hk
 refine A1 (A4 (pA (.tl 0 []) (pE (gn (A1 (A4 ?_))))))
 refine pM (.lit _ _ _) ?_
 refine Af eK (bk hk fun m1 hm1 hk => ?_)
 refine fG hO hm1 (⟨0, 0⟩ : Al) IY EA eG SV (fun b2 G hO => ?_)
 refine pA (.sl _ _ _) (pE (gn (A1 (A1 (A4 ?_)))))
 refine pA (.int _ _) (pE (gn (BO ?_)))
 refine AA (F := NQ aA0) (fun s S' => ∃ (J : Nat → V) (G : A3), s.1.length = m1 ∧ A5 H G [.Ad b2 (.cells 2 (A8 0 s.1))] ∧ S' = ⟨CM [(0, AN l1 0 aA0), (3, .sl b2 0 m1), (4, iv s.2)] J, G⟩) hk ⟨_, _, List.length_replicate, hO, sh⟩ ?_
 rintro ⟨x3, x4⟩ _ y1 ⟨J, G, hl3, hO, rfl⟩ hk hx1
 refine A1 (A1 (A4 (pM (.int _ _) ?_)))
 refine pM (.lit _ _ _) ?_
 refine Af eK ?_
 refine AW (pE (gn (Aq hk (fun hk => ?_) (fun hk => ?_))))
 ·refine Ar (gn (A1 (BO (A4 (pM (.sl _ _ _) ?_)))))
  refine pM (.int _ _) ?_
  refine pM (.lit _ _ _) ?_
  refine pM (.int _ _) (bk hk fun c5 hc5 hk => ?_)
  refine pX hc5 lZ YH ?_
  refine Br (.agg [_, _]) (G8 (lm := 0) (off := 0) hc5 jF YH) (bk hk fun v6 hv6 hk => ?_)
  refine AR (fun _ => ZQ hv6) (bk hk fun c7 hc7 hk => ?_)
  refine kK hl3 hc7 IY EA ?_
  refine kJ hO 0 hc7 EA rfl v6 (.agg [_, _]) (fun G hO => pE (bn (gn (A4 ?_))))
  refine pM (.int _ _) ?_
  refine AW ?_
  refine pA (.int _ _) (pE (gn ?_))
  cases hk; exact ⟨_, rfl, _, _, (List.length_set.trans hl3), hO, sh⟩
 ·refine D3 (ge (ge (be (gn (have hk := lx hx1 hk; A1 (A4 (pM (.sl _ _ _) ?_)))))))
  refine pA (.sl _ _ _) (pE (gn (Aw ?_)))
  replace hk := Option.some.inj hk; subst hk; exact HF hO (L0 (xs := x3) hl3 hlk 0) (JB (.sl _ _ _) Dl)
def hJ (aA0 : AG) : Option AG :=
 ((cM aA0.Aa).bind fun v4 => some ({ State := aA0.State, Ab := aA0.Ab, Aa := v4, Shown := aA0.Shown, Timer := aA0.Timer } : AG))
theorem ZR {aA0 : AG} {r : AG} {l1 : Nat} (hk : hJ aA0 = some r) (hlk : 0 < lk.length := by simp) : ∃ v H1, Am Tryz.prog hh 78 [.agg [iv aA0.State, iv aA0.Ab, AN l1 0 aA0.Aa, .bool aA0.Shown, iv aA0.Timer]] H lk = some (v, H1) ∧ Hn H r v H1 := by
 refine B0 Tryz.func78 rfl Tryz.ntmps78 Tryz.results78 rfl rfl ?_
 have hO := A5.nil H
 unfold hJ at hk
 refine A1 (A4 (BZ (cs := [_, _, _, _, _]) hO Py (fun b1 G hO => CK hO Av FN (fun b2 G hO => pE (gn (A1 (A4 (CK hO Av FN (fun b3 G hO => pE (gn (A1 (A4 ?_))))))))))))
 refine As a8 hO 2 (.int _ _) BU ?_
 refine pF B8 ?_
 refine Cs (xs := [_]) hO 0 DP rfl (fun G hO => pE (gn (A1 (A4 ?_))))
 refine As a9 hO 2 (.int _ _) BU ?_
 refine pF Bw ?_
 refine Cs (xs := [_]) hO 0 DP rfl (fun G hO => pE (gn (A1 (A4 ?_))))
 refine As V2 hO 2 (.lit _ _ _) C8 (bk hk fun v4 hv4 hk => ?_)
 refine Sj hO (fun _ => QU hv4) (fun u5 F5 G hO => ?_)
 refine pF C3 ?_
 have hc6 := B6 hO (j := 0) rfl
 refine Cs (xs := [_]) hO 1 GB rfl (fun G hO => ?_) (h3 := hc6.1) (h6 := Bg hc6.2)
 refine pE (gn (A1 (A4 (As aA hO 3 (.bool _) Fk ?_))))
 refine pF Dm ?_
 refine Cs (xs := [_]) hO 1 FO rfl (fun G hO => pE (gn (A1 (A4 ?_))))
 refine As aB hO 3 (.int _ _) BU ?_
 refine pF E5 ?_
 refine Cs (xs := [_]) hO 1 DP rfl (fun G hO => pE (gn (A1 (A4 ?_))))
 refine E4 hO 1 [_, _, _, _, _] G0 Av ?_
 have hc7 := B6 hO (j := 0) rfl
 refine Cs (xs := [_, _, _, _, _]) hO 2 Av rfl (fun G hO => ?_) (h6 := (Bj rfl (Bj rfl (Bj hc7.2 (Bj rfl (Bj rfl IM))))))
 refine pE (gn (Aw ?_))
 replace hk := Option.some.inj hk; subst hk; exact Jx hO (V3 (x := ({ State := aA0.State, Ab := aA0.Ab, Aa := v4, Shown := aA0.Shown, Timer := aA0.Timer } : AG)) (CD (c1 := [_]) (JE aA0.State) (CD (c1 := [_]) (JE aA0.Ab) (CD (c1 := [_]) (Cv (x := v4) 0) (CD (c1 := [_]) (Kz aA0.Shown) (JE aA0.Timer)))))) (G9 hO 2 [_, _, _, _, _] G0 Av Dl)
def NR (aA0 : List AG) : ((List AG) × Int) → Option (((List AG) × Int) ⊕ (List AG)) := fun s =>
 (bif decide (s.2 < (aA0.length : Int)) then ((AK aA0 s.2).bind fun c7 => ((hJ c7).bind fun v8 => ((AK s.1 s.2).bind fun c10 => some (.inl (s.1.set s.2.toNat v8, BT (s.2 + (1:Int))))))) else ((some s.1).map Sum.inr))
def gL (aA0 : List AG) : Option (List AG) :=
 ((GF 56 (aA0.length : Int)).bind fun m1 => (AJ (NR aA0) (List.replicate m1 (⟨0, 0, [], false, 0⟩ : AG), (0:Int))))
theorem Z4 {aA0 : List AG} {r : (List AG)} {l1 m2 : Nat} (hk : gL aA0 = some r) (hlk : 0 < lk.length := by simp) : ∃ v H1, Am Tryz.prog hh 44 [AN l1 m2 aA0] H lk = some (v, H1) ∧ FV H r v H1 := by
 refine B0 Tryz.func44 rfl Tryz.ntmps44 Tryz.results44 rfl rfl ?_
 have hO := A5.nil H
 unfold gL at hk
 refine A1 (A4 (pA (.tl 0 []) (pE (gn (A1 (A4 ?_))))))
 refine pM (.lit _ _ _) ?_
 refine Af aI (bk hk fun m1 hm1 hk => ?_)
 refine dZ hO hm1 (⟨0, 0, [], false, 0⟩ : AG) EJ Av Y9 FN (fun G => (show Ao.tr G (⟨0, 0, [], false, 0⟩ : AG) [iv 0, iv 0, (.tl 0 []), .bool false, iv 0] [] from ⟨[_], _, [], [], rfl, rfl, ⟨rfl, rfl⟩, ⟨[_], _, [], [], rfl, rfl, ⟨rfl, rfl⟩, ⟨[_], _, [], [], rfl, rfl, .inl ⟨rfl, rfl, rfl⟩, ⟨[_], _, [], [], rfl, rfl, ⟨rfl, rfl⟩, ⟨rfl, rfl⟩⟩⟩⟩⟩)) (fun b2 G hO => ?_)
 refine pA (.sl b2 0 m1) (pE (gn (A1 (A1 (A4 ?_)))))
 refine pA (.int _ _) (pE (gn (BO ?_)))
 refine AA (F := NR aA0) (fun s S' => ∃ (F5 : List Nat) (J : Nat → V) (G : A3), A5 H G [AY [] F5 s.1 [.sl b2 0 m1]] ∧ S' = ⟨CM [(0, AN l1 m2 aA0), (3, (.sl b2 0 m1)), (4, iv s.2)] J, G⟩) hk ⟨[b2], _, _, hO, sh⟩ ?_
 rintro ⟨x4, x6⟩ _ y1 ⟨F5, J, G, hO, rfl⟩ hk hx1
 refine A1 (A1 (A4 (pM (.int _ _) ?_)))
 refine pM (.lit _ _ _) ?_
 refine Af aI ?_
 refine AW (pE (gn (Aq hk (fun hk => ?_) (fun hk => ?_))))
 ·refine Ar (gn (A1 (BO (A4 (pM (.sl b2 0 m1) ?_)))))
  refine pM (.int _ _) ?_
  refine pM (.lit _ _ _) ?_
  refine pM (.int _ _) (bk hk fun c7 hc7 hk => ?_)
  refine pX hc7 jP Py ?_
  refine Br (.agg [_, _, _, _, _]) (G8 (lm := m2) (off := 0) hc7 bM Py) (bk hk fun v8 hv8 hk => ?_)
  refine Lj hO (fun _ => ZR hv8) (fun u9 F9 G hO => bk hk fun c10 hc10 hk => ?_)
  refine L7 hO 1 hc10 EJ Av (fun b11 hb11 => ?_)
  refine e6 hO 0 hb11 hc10 Av rfl (fun G hO => pE (bn (gn (A4 ?_))))
  refine pM (.int _ _) ?_
  refine AW ?_
  refine pA (.int _ _) (pE (gn ?_))
  cases hk; exact ⟨_, rfl, (F5 ++ F9), _, _, hO, sh⟩
 ·refine D3 (ge (ge (be (gn (have hk := lx hx1 hk; A1 (A4 (pM (.sl b2 0 m1) ?_)))))))
  refine pA (.sl b2 0 m1) (pE (gn (Aw ?_)))
  replace hk := Option.some.inj hk; subst hk; exact HF hO (Cv (x := x4) 0) (JB (.sl b2 0 m1) Dl)
def aS (aA0 : AD) : Option AD :=
 ((cM aA0.C5).bind fun v4 => ((gK aA0.AF).bind fun v7 => ((gL aA0.A7).bind fun v10 => some ({ Ok := aA0.Ok, C5 := v4, AF := v7, A7 := v10 } : AD))))
theorem Ma {aA0 : AD} {r : AD} {l1 l2 l3 m4 : Nat} (hk : aS aA0 = some r) (hlk : 0 < lk.length := by simp) : ∃ v H1, Am Tryz.prog hh 10 [.agg (Ah l1 0 l2 0 l3 m4 aA0)] H lk = some (v, H1) ∧ Hn H r v H1 := by
 refine B0 Tryz.func10 rfl Tryz.ntmps10 Tryz.results10 rfl rfl ?_
 have hO := A5.nil H
 unfold aS at hk
 refine A1 (A4 (BZ (cs := [_, _, _, _]) hO SY (fun b1 G hO => CK hO Bv RM (fun b2 G hO => pE (gn (A1 (A4 (CK hO Bv RM (fun b3 G hO => pE (gn (A1 (A4 ?_))))))))))))
 refine As eJ hO 2 (.bool _) Fk ?_
 refine pF Lt ?_
 refine Cs (xs := [_]) hO 0 FO rfl (fun G hO => pE (gn (A1 (A4 ?_))))
 refine As YD hO 2 (.lit _ _ _) C8 (bk hk fun v4 hv4 hk => ?_)
 refine Sj hO (fun _ => QU hv4) (fun u5 F5 G hO => ?_)
 refine pF Cm ?_
 have hc6 := B6 hO (j := 0) rfl
 refine Cs (xs := [_]) hO 1 GB rfl (fun G hO => ?_) (h3 := hc6.1) (h6 := Bg hc6.2)
 refine pE (gn (A1 (A4 (As YE hO 3 (.lit _ _ _) jI (bk hk fun v7 hv7 hk => ?_)))))
 refine Sj hO (fun _ => Z3 hv7) (fun u8 F8 G hO => ?_)
 refine pF Db ?_
 have hc9 := B6 hO (j := 0) rfl
 refine Cs (xs := [_]) hO 2 eL rfl (fun G hO => ?_) (h3 := hc9.1) (h6 := Bg hc9.2)
 refine pE (gn (A1 (A4 (As YF hO 4 (.lit _ _ _) jJ (bk hk fun v10 hv10 hk => ?_)))))
 refine Sj hO (fun _ => Z4 hv10) (fun u11 F11 G hO => ?_)
 refine pF Bd ?_
 have hc12 := B6 hO (j := 0) rfl
 refine Cs (xs := [_]) hO 3 eM rfl (fun G hO => ?_) (h3 := hc12.1) (h6 := Bg hc12.2)
 refine pE (gn (A1 (A4 (E4 hO 3 [_, _, _, _] Ep Bv ?_))))
 have hc13 := B6 hO (j := 2) rfl
 have hc14 := B6 hO (j := 1) rfl
 have hc15 := B6 hO (j := 0) rfl
 refine Cs (xs := [_, _, _, _]) hO 4 Bv rfl (fun G hO => ?_) (h6 := (Bj rfl (Bj hc13.2 (Bj hc14.2 (Bj hc15.2 IM)))))
 refine pE (gn (Aw ?_))
 replace hk := Option.some.inj hk; subst hk; exact Jx hO (Oq (x := ({ Ok := aA0.Ok, C5 := v4, AF := v7, A7 := v10 } : AD)) (CD (c1 := [_]) (Kz aA0.Ok) (CD (c1 := [_]) (Cv (x := v4) 2) (CD (c1 := [_]) (Cv (x := v7) 1) (Cv (x := v10) 0))))) (G9 hO 4 [_, _, _, _] Ep Bv Dl)
def TD (aX0 : Int) (aA1 : Int) (aB2 : Int) : Option Bool :=
 some (decide (aX0 ≥ aA1) && decide (aX0 ≤ aB2))
theorem Ed {aX0 : Int} {aA1 : Int} {aB2 : Int} {r : Bool} (hk : TD aX0 aA1 aB2 = some r) (hlk : 0 < lk.length := by simp) : Am Tryz.prog hh 37 [iv aX0, iv aA1, iv aB2] H lk = some (.bool r, H) := by
 refine AI Tryz.func37 rfl Tryz.ntmps37 Tryz.results37 rfl rfl fun hO => ?_
 unfold TD at hk
 refine A1 (A4 (pA (.bool _) (pE (gn (A1 (A4 ?_))))))
 refine pM (.int _ _) ?_
 refine pM (.int _ _) ?_
 refine AW ?_
 refine pM (.bool _) ?_
 refine AS (l1 := [_, _, _, _]) [11, 12, 13, 14] 14 (.bool (decide (aX0 ≥ aA1) && decide (aX0 ≤ aB2))) ?_ ?_
 ·refine bc (b := decide (aX0 ≥ aA1)) (fun hg => ?_) (fun hg => ?_)
  ·refine AB hg (pM (.int _ _) (AB hg ?_))
   refine pM (.int _ _) (AB hg ?_)
   refine AW ?_
   refine Cr hg (.bool _) ?_
   exact pE (ek (by rw [hg]; rfl))
  ·refine AE hg (AE hg (AE hg (Cq hg (.bool _) ?_)))
   exact pE (ek (by rw [hg]; rfl))
 ·intro J
  refine pA (.bool _) (pE (gn (Aw ?_)))
  cases hk; exact AT hO
def Me (aList0 : List Int) (x1 : Int) (c2 : Int) : Int → Option (Int ⊕ (Int ⊕ Bool)) := fun s =>
 (bif decide (s < x1) then ((AK aList0 s).bind fun c5 => (bif (c5 == c2) then (((some false).map Sum.inr).map Sum.inr) else some (.inl (BT (s + (1:Int)))))) else ((some (.inl (BT (x1 + (1:Int))))).map Sum.inr))
def Md (aList0 : List Int) (aN1 : Int) : Int → Option (Int ⊕ Bool) := fun s =>
 (bif decide (s < (aList0.length : Int)) then ((AK aList0 s).bind fun c2 => ((TD c2 (0:Int) (BT (aN1 - (1:Int)))).bind fun v3 => (bif !v3 then ((some false).map Sum.inr) else (AJ (Me aList0 s c2) ((0:Int)))))) else ((some (decide ((aList0.length : Int) ≤ (30:Int)))).map Sum.inr))
def TA (aList0 : List Int) (aN1 : Int) : Option Bool :=
 (AJ (Md aList0 aN1) ((0:Int)))
theorem NF {aList0 : List Int} {aN1 : Int} {r : Bool} {l1 : Nat} (hk : TA aList0 aN1 = some r) (hlk : 0 < lk.length := by simp) : Am Tryz.prog hh 128 [AN l1 0 aList0, iv aN1] H lk = some (.bool r, H) := by
 refine AI Tryz.func128 rfl Tryz.ntmps128 Tryz.results128 rfl rfl fun hO => ?_
 unfold TA at hk
 refine A1 (A4 (pA (.bool _) (pE (gn (A1 (A1 (A4 ?_)))))))
 refine pM (.lit _ _ _) ?_
 refine Af D5 ?_
 refine pM (.int _ _) (pE (gn (BO ?_)))
 refine AA (F := Md aList0 aN1) (fun s S' => ∃ (J : Nat → V) (G : A3), A5 H G [] ∧ S' = ⟨CM [(0, AN l1 0 aList0), (1, iv aN1), (8, AN l1 0 aList0), (9, iv (aList0.length : Int)), (10, iv s)] J, G⟩) hk ⟨_, _, hO, sh⟩ ?_
 rintro x1 _ y1 ⟨J, G, hO, rfl⟩ hk hx1
 refine A1 (A4 (AW (pE (gn (A1 (Aq hk (fun hk => ?_) (fun hk => ?_)))))))
 ·refine Ar (gn (A1 (BO (A1 (A4 (pM (.int _ _) (bk hk fun c2 hc2 hk => ?_)))))))
  refine pX hc2 C4 DP ?_
  refine Br (.int _ _) (D4 (lm := 0) (off := 0) hc2 BU) ?_
  refine pA (.int _ _) ?_
  refine pA (.int _ _) (pE (gn (A1 (A1 (A4 ?_)))))
  refine pM (.int _ _) ?_
  refine pM (.int _ _) ?_
  refine AW (bk hk fun v3 hv3 hk => ?_)
  refine AR (fun _ => Ed hv3) ?_
  refine pU (pE (gn (Aq hk (fun hk => ?_) (fun hk => ?_))))
  ·refine A1 (A4 (pA (.bool _) (pE (gn (Aw (gr (br (gr (gr (br (gr (have hk := lx hx1 hk; ?_))))))))))))
   cases hk; exact AT hO
  ·refine Ar (gn (A1 (A4 (pA (.int _ _) (pE (gn (BO ?_)))))))
   refine AA (F := Me aList0 x1 c2) (fun s S' => ∃ (J : Nat → V) (G : A3), A5 H G [] ∧ S' = ⟨CM [(0, AN l1 0 aList0), (1, iv aN1), (5, iv x1), (6, iv c2), (7, iv s), (8, AN l1 0 aList0), (9, iv (aList0.length : Int)), (10, iv x1)] J, G⟩) hk ⟨_, _, hO, sh⟩ ?_
   rintro x4 _ y2 ⟨J, G, hO, rfl⟩ hk hx2
   refine A1 (A1 (A4 (pM (.int _ _) ?_)))
   refine pM (.int _ _) ?_
   refine AW (pE (gn (Aq hk (fun hk => ?_) (fun hk => ?_))))
   ·refine Ar (gn (A1 (BO (A1 (A4 (pM (.lit _ _ _) ?_))))))
    refine pM (.int _ _) (bk hk fun c5 hc5 hk => ?_)
    refine pX hc5 C4 DP ?_
    refine Br (.int _ _) (D4 (lm := 0) (off := 0) hc5 BU) ?_
    refine pM (.int _ _) ?_
    refine AW (pE (gn (Aq hk (fun hk => ?_) (fun hk => ?_))))
    ·refine A1 (A4 (pA (.bool _) (pE (gn (Aw (br (gr (gr (br (br (gr (gr (br (gr (have hk := lx hx2 hk; have hk := lx hx1 hk; ?_)))))))))))))))
     cases hk; exact AT hO
    ·refine Ar (bn (gn (A4 (pM (.int _ _) ?_))))
     refine AW ?_
     refine pA (.int _ _) (pE (gn ?_))
     cases hk; exact ⟨_, rfl, _, _, hO, sh⟩
   ·refine D3 (ge (ge (be (bn (gn (have hk := lx hx2 hk; A4 (AW ?_)))))))
    refine pM (.int _ _) (pE (gn ?_))
    cases hk; exact ⟨_, rfl, _, _, hO, sh⟩
 ·refine D3 (ge (ge (be (gn (have hk := lx hx1 hk; A1 (A4 (pM (.lit _ _ _) ?_)))))))
  refine Af D5 ?_
  refine AW ?_
  refine pA (.bool _) (pE (gn (Aw ?_)))
  cases hk; exact AT hO
def Mg (aList1 : List Ae) (x2 : Int) (c3 : Ae) : Int → Option (Int ⊕ (Int ⊕ Bool)) := fun s =>
 (bif decide (s < x2) then ((AK aList1 s).bind fun c9 => (bif (c9.Switch == c3.Switch) then (((some false).map Sum.inr).map Sum.inr) else some (.inl (BT (s + (1:Int)))))) else ((some (.inl (BT (x2 + (1:Int))))).map Sum.inr))
def Mf (aP0 : AP) (aList1 : List Ae) : Int → Option (Int ⊕ Bool) := fun s =>
 (bif decide (s < (aList1.length : Int)) then ((AK aList1 s).bind fun c3 => ((TD c3.Switch (0:Int) (BT ((aP0.A6.length : Int) - (1:Int)))).bind fun v5 => ((bif !v5 then some true else ((TD c3.FC (1:Int) (2:Int)).bind fun v7 => some (!v7))).bind fun t6 => (bif t6 then ((some false).map Sum.inr) else (AJ (Mg aList1 s c3) ((0:Int))))))) else ((some (decide ((aList1.length : Int) ≤ (30:Int)))).map Sum.inr))
def VT (aP0 : AP) (aList1 : List Ae) : Option Bool :=
 (AJ (Mf aP0 aList1) ((0:Int)))
theorem Rm {aP0 : AP} {aList1 : List Ae} {r : Bool} {l1 l2 m3 l4 m5 l6 : Nat} (hk : VT aP0 aList1 = some r) (hlk : 0 < lk.length := by simp) : Am Tryz.prog hh 129 [.agg (Ai l1 0 l2 m3 l4 m5 aP0), AN l6 0 aList1] H lk = some (.bool r, H) := by
 refine AI Tryz.func129 rfl Tryz.ntmps129 Tryz.results129 rfl rfl fun hO => ?_
 unfold VT at hk
 refine A1 (A4 (BZ (cs := [_, _, _, _, _]) hO CC (fun b1 G hO => ?_)))
 refine pA (.bool _) (pE (gn (A1 (A1 (A4 ?_)))))
 refine pM (.lit _ _ _) ?_
 refine Af Ex ?_
 refine pM (.int _ _) (pE (gn (BO ?_)))
 refine AA (F := Mf aP0 aList1) (fun s S' => ∃ (J : Nat → V) (G : A3), A5 H G [.Ad b1 (.cells 5 (Ai l1 0 l2 m3 l4 m5 aP0))] ∧ S' = ⟨CM [(1, AN l6 0 aList1), (2, .ptr b1 0), (8, AN l6 0 aList1), (9, iv (aList1.length : Int)), (10, iv s)] J, G⟩) hk ⟨_, _, hO, sh⟩ ?_
 rintro x2 _ y1 ⟨J, G, hO, rfl⟩ hk hx1
 refine A1 (A4 (AW (pE (gn (A1 (Aq hk (fun hk => ?_) (fun hk => ?_)))))))
 ·refine Ar (gn (A1 (BO (A1 (A4 (pM (.int _ _) (bk hk fun c3 hc3 hk => ?_)))))))
  refine pX hc3 Df BB ?_
  refine Br (.agg [_, _]) (G8 (lm := 0) (off := 0) hc3 G3 BB) (CK hO BB FT (fun b4 G hO => ?_))
  refine pA (.int _ _) ?_
  refine Cs (xs := [_, _]) hO 0 BB rfl (fun G hO => pE (gn (A1 (A1 (A4 ?_)))))
  refine As CP hO 0 (.int _ _) BU ?_
  refine As DE hO 1 (.lit _ _ _) BK ?_
  refine Af D5 ?_
  refine AW (bk hk fun v5 hv5 hk => ?_)
  refine AR (fun _ => Ed hv5) ?_
  refine pU ?_
  refine pM (.bool _) (bk hk fun t6 ht hk => ?_)
  refine AS (l1 := [_, _, _, _, _]) [24, 25, 26, 27, 28] 28 (.bool t6) ?_ ?_
  ·refine bc (b := !v5) (fun hg => ?_) (fun hg => ?_)
   ·replace hk := ct hg ht
    refine AE hg (AE hg (AE hg (AE hg (Cr hg (.bool _) ?_))))
    cases hk; exact pE ek
   ·replace hk := cf hg ht
    refine AB hg (pF E7 (AB hg ?_))
    refine CN hO 0 (.int _ _) BU (AB hg (bk hk fun v7 hv7 hk => ?_))
    refine AR (fun _ => Ed hv7) (AB hg ?_)
    refine pU ?_
    refine Cq hg (.bool _) ?_
    cases hk; exact pE ek
  ·intro J
   refine pE (gn (Aq hk (fun hk => ?_) (fun hk => ?_)))
   ·refine A1 (A4 (pA (.bool _) (pE (gn (Aw (gr (br (gr (gr (br (gr (have hk := lx hx1 hk; ?_))))))))))))
    cases hk; exact AT hO
   ·refine Ar (gn (A1 (A4 (pA (.int _ _) (pE (gn (BO ?_)))))))
    refine AA (F := Mg aList1 x2 c3) (fun s S' => ∃ (J : Nat → V) (G : A3), A5 H G [.Ad b4 (.cells 2 [iv c3.Switch, iv c3.FC]), .Ad b1 (.cells 5 (Ai l1 0 l2 m3 l4 m5 aP0))] ∧ S' = ⟨CM [(1, AN l6 0 aList1), (2, .ptr b1 0), (5, iv x2), (6, .ptr b4 0), (7, iv s), (8, AN l6 0 aList1), (9, iv (aList1.length : Int)), (10, iv x2)] J, G⟩) hk ⟨_, _, hO, sh⟩ ?_
    rintro x8 _ y2 ⟨J, G, hO, rfl⟩ hk hx2
    refine A1 (A1 (A4 (pM (.int _ _) ?_)))
    refine pM (.int _ _) ?_
    refine AW (pE (gn (Aq hk (fun hk => ?_) (fun hk => ?_))))
    ·refine Ar (gn (A1 (BO (A1 (BC [(0, true), (1, true), (2, true), (3, true), (4, true), (5, true), (6, true), (7, false)] [_, _, _, _, _, _, _, _] (by decide +kernel) (by rfl) ?_)))))
     refine pM (.lit _ _ _) ?_
     refine pM (.int _ _) (bk hk fun c9 hc9 hk => ?_)
     refine pX hc9 Df BB ?_
     refine pF CP ?_
     refine Br (.int _ _) (D4 (lm := 0) (off := 0) hc9 BU) ?_
     refine As CP hO 0 (.int _ _) BU ?_
     refine AW (pE (gn (Aq hk (fun hk => ?_) (fun hk => ?_))))
     ·refine A1 (A4 (pA (.bool _) (pE (gn (Aw (br (gr (gr (br (br (gr (gr (br (gr (have hk := lx hx2 hk; have hk := lx hx1 hk; ?_)))))))))))))))
      cases hk; exact AT hO
     ·refine Ar (bn (gn (A4 (pM (.int _ _) ?_))))
      refine AW ?_
      refine pA (.int _ _) (pE (gn ?_))
      cases hk; exact ⟨_, rfl, _, _, hO, sh⟩
    ·refine D3 (ge (ge (be (bn (gn (have hk := lx hx2 hk; A4 (AW ?_)))))))
     refine pM (.int _ _) (pE (gn ?_))
     cases hk; exact ⟨_, rfl, _, _, (pk hO [1]), sh⟩
 ·refine D3 (ge (ge (be (gn (have hk := lx hx1 hk; A1 (A4 (pM (.lit _ _ _) ?_)))))))
  refine Af Ex ?_
  refine AW ?_
  refine pA (.bool _) (pE (gn (Aw ?_)))
  cases hk; exact AT hO
def Nr (aB1 : List Int) (x1 : Int) (c2 : Int) : Int → Option (Int ⊕ (Int ⊕ Bool)) := fun s =>
 (bif decide (s < (aB1.length : Int)) then ((AK aB1 s).bind fun c4 => (bif (c2 == c4) then (((some true).map Sum.inr).map Sum.inr) else some (.inl (BT (s + (1:Int)))))) else ((some (.inl (BT (x1 + (1:Int))))).map Sum.inr))
def Qd (aA0 : List Int) (aB1 : List Int) : Int → Option (Int ⊕ Bool) := fun s =>
 (bif decide (s < (aA0.length : Int)) then ((AK aA0 s).bind fun c2 => (AJ (Nr aB1 s c2) ((0:Int)))) else ((some false).map Sum.inr))
def XE (aA0 : List Int) (aB1 : List Int) : Option Bool :=
 (AJ (Qd aA0 aB1) ((0:Int)))
theorem I1 {aA0 : List Int} {aB1 : List Int} {r : Bool} {l1 l2 : Nat} (hk : XE aA0 aB1 = some r) (hlk : 0 < lk.length := by simp) : Am Tryz.prog hh 89 [AN l1 0 aA0, AN l2 0 aB1] H lk = some (.bool r, H) := by
 refine AI Tryz.func89 rfl Tryz.ntmps89 Tryz.results89 rfl rfl fun hO => ?_
 unfold XE at hk
 refine A1 (A4 (pA (.bool _) (pE (gn (A1 (A1 (A4 ?_)))))))
 refine pM (.lit _ _ _) ?_
 refine Af D5 ?_
 refine pM (.int _ _) (pE (gn (BO ?_)))
 refine AA (F := Qd aA0 aB1) (fun s S' => ∃ (J : Nat → V) (G : A3), A5 H G [] ∧ S' = ⟨CM [(1, AN l2 0 aB1), (9, AN l1 0 aA0), (10, iv (aA0.length : Int)), (11, iv s)] J, G⟩) hk ⟨_, _, hO, sh⟩ ?_
 rintro x1 _ y1 ⟨J, G, hO, rfl⟩ hk hx1
 refine A1 (A4 (AW (pE (gn (A1 (Aq hk (fun hk => ?_) (fun hk => ?_)))))))
 ·refine Ar (gn (A1 (BO (A1 (A4 (bk hk fun c2 hc2 hk => pX hc2 C4 DP ?_))))))
  refine Br (.int _ _) (D4 (lm := 0) (off := 0) hc2 BU) ?_
  refine pA (.int _ _) (pE (gn (A1 (A4 ?_))))
  refine pM (.lit _ _ _) ?_
  refine Af D5 ?_
  refine pM (.int _ _) (pE (gn (BO ?_)))
  refine AA (F := Nr aB1 x1 c2) (fun s S' => ∃ (J : Nat → V) (G : A3), A5 H G [] ∧ S' = ⟨CM [(1, AN l2 0 aB1), (6, iv c2), (9, AN l1 0 aA0), (10, iv (aA0.length : Int)), (11, iv x1), (15, AN l2 0 aB1), (16, iv (aB1.length : Int)), (17, iv s)] J, G⟩) hk ⟨_, _, hO, sh⟩ ?_
  rintro x3 _ y2 ⟨J, G, hO, rfl⟩ hk hx2
  refine A1 (A4 (AW (pE (gn (A1 (Aq hk (fun hk => ?_) (fun hk => ?_)))))))
  ·refine Ar (gn (A1 (BO (A1 (A4 (bk hk fun c4 hc4 hk => pX hc4 C4 DP ?_))))))
   refine Br (.int _ _) (D4 (lm := 0) (off := 0) hc4 BU) ?_
   refine pA (.int _ _) (pE (gn (A1 (A4 ?_))))
   refine pM (.int _ _) ?_
   refine pM (.int _ _) ?_
   refine AW (pE (gn (Aq hk (fun hk => ?_) (fun hk => ?_))))
   ·refine A1 (A4 (pA (.bool _) (pE (gn (Aw (br (gr (gr (br (br (gr (gr (br (gr (have hk := lx hx2 hk; have hk := lx hx1 hk; ?_)))))))))))))))
    cases hk; exact AT hO
   ·refine Ar (bn (gn (A4 (AW ?_))))
    refine pM (.int _ _) (pE (gn ?_))
    cases hk; exact ⟨_, rfl, _, _, hO, sh⟩
  ·refine D3 (ge (ge (be (bn (gn (have hk := lx hx2 hk; A4 (AW ?_)))))))
   refine pM (.int _ _) (pE (gn ?_))
   cases hk; exact ⟨_, rfl, _, _, hO, sh⟩
 ·refine D3 (ge (ge (be (gn (have hk := lx hx1 hk; A1 (A4 (pA (.bool _) (pE (gn (Aw ?_))))))))))
  cases hk; exact AT hO
def JN (aP0 : AP) (aW1 : Bq) (x13 : Int) (c14 : Ae) : Int → Option (Int ⊕ (Int ⊕ Bool)) := fun s =>
 (bif decide (s < (aW1.AH.length : Int)) then ((AK aW1.AH s).bind fun c17 => (bif (c14.Switch == c17.Switch) then (((some false).map Sum.inr).map Sum.inr) else some (.inl (BT (s + (1:Int)))))) else (((AK aP0.A6 c14.Switch).bind fun c19 => ((XE ([c19] : List Int) aW1.A0).bind fun v20 => (bif !v20 then ((some false).map Sum.inr) else some (.inl (BT (x13 + (1:Int))))))).map Sum.inr))
def KQ (aP0 : AP) (aW1 : Bq) : Int → Option (Int ⊕ Bool) := fun s =>
 (bif decide (s < (aW1.AQ.length : Int)) then ((AK aW1.AQ s).bind fun c14 => (AJ (JN aP0 aW1 s c14) ((0:Int)))) else (((XE aW1.Bt aW1.A0).bind fun v21 => some (!v21)).map Sum.inr))
def Wh (aP0 : AP) (aW1 : Bq) : Option Bool :=
 ((bif ((aW1.A0.length : Int) == (0:Int)) then some true else ((TA aW1.A0 aP0.A0).bind fun v4 => some (!v4))).bind fun t3 => ((bif t3 then some true else ((TA aW1.Bt aP0.A0).bind fun v6 => some (!v6))).bind fun t5 => ((bif t5 then some true else ((TA aW1.DB aP0.A0).bind fun v8 => some (!v8))).bind fun t7 => ((bif t7 then some true else ((VT aP0 aW1.AQ).bind fun v10 => some (!v10))).bind fun t9 => ((bif t9 then some true else ((VT aP0 aW1.AH).bind fun v12 => some (!v12))).bind fun t11 => (bif t11 then some false else (AJ (KQ aP0 aW1) ((0:Int)))))))))
theorem Wi {aP0 : AP} {aW1 : Bq} {r : Bool} {l1 l2 m3 l4 m5 l6 l7 l8 l9 l10 : Nat} (hk : Wh aP0 aW1 = some r) (hlk : 0 < lk.length := by simp) : Am Tryz.prog hh 120 [.agg (Ai l1 0 l2 m3 l4 m5 aP0), .agg (Cn l6 0 l7 0 l8 0 l9 0 l10 0 aW1)] H lk = some (.bool r, H) := by
 refine AI Tryz.func120 rfl Tryz.ntmps120 Tryz.results120 rfl rfl fun hO => ?_
 unfold Wh at hk
 refine A1 (A4 (BZ (cs := [_, _, _, _, _]) hO CC (fun b1 G hO => ?_)))
 refine BZ (cs := [_, _, _, _, _]) hO Az (fun b2 G hO => ?_)
 refine pA (.bool _) (pE (gn (A1 (A1 (A4 ?_)))))
 refine As BI hO 0 (.lit _ _ _) BK ?_
 refine Af D5 ?_
 refine AW ?_
 refine pM (.bool _) (bk hk fun t3 ht hk => ?_)
 refine AS (l1 := [_, _, _, _, _, _, _]) [14, 15, 16, 17, 18, 19, 20] 20 (.bool t3) ?_ ?_
 ·refine bc (b := ((aW1.A0.length : Int) == (0:Int))) (fun hg => ?_) (fun hg => ?_)
  ·replace hk := ct hg ht
   refine AE hg (AE hg (AE hg (AE hg (AE hg (AE hg (Cr hg (.bool _) ?_))))))
   cases hk; exact pE ek
  ·replace hk := cf hg ht
   refine AB hg (pF BI (AB hg ?_))
   refine CN hO 0 (.lit _ _ _) BK (AB hg ?_)
   refine pF EK (AB hg ?_)
   refine CN hO 1 (.int _ _) BU (AB hg (bk hk fun v4 hv4 hk => ?_))
   refine AR (fun _ => NF hv4) (AB hg ?_)
   refine pU ?_
   refine Cq hg (.bool _) ?_
   cases hk; exact pE ek
 ·intro J
  refine pM (.bool _) (bk hk fun t5 ht hk => ?_)
  refine AS (l1 := [_, _, _, _, _, _, _]) [22, 23, 24, 25, 26, 27, 28] 28 (.bool t5) ?_ ?_
  ·refine bc (b := t3) (fun hg => ?_) (fun hg => ?_)
   ·replace hk := ct hg ht
    refine AE hg (AE hg (AE hg (AE hg (AE hg (AE hg (Cr hg (.bool _) ?_))))))
    cases hk; exact pE ek
   ·replace hk := cf hg ht
    refine AB hg (pF DU (AB hg ?_))
    refine CN hO 0 (.lit _ _ _) BK (AB hg ?_)
    refine pF EK (AB hg ?_)
    refine CN hO 1 (.int _ _) BU (AB hg (bk hk fun v6 hv6 hk => ?_))
    refine AR (fun _ => NF hv6) (AB hg ?_)
    refine pU ?_
    refine Cq hg (.bool _) ?_
    cases hk; exact pE ek
  ·intro J
   refine pM (.bool _) (bk hk fun t7 ht hk => ?_)
   refine AS (l1 := [_, _, _, _, _, _, _]) [30, 31, 32, 33, 34, 35, 36] 36 (.bool t7) ?_ ?_
   ·refine bc (b := t5) (fun hg => ?_) (fun hg => ?_)
    ·replace hk := ct hg ht
     refine AE hg (AE hg (AE hg (AE hg (AE hg (AE hg (Cr hg (.bool _) ?_))))))
     cases hk; exact pE ek
    ·replace hk := cf hg ht
     refine AB hg (pF JY (AB hg ?_))
     refine CN hO 0 (.lit _ _ _) BK (AB hg ?_)
     refine pF EK (AB hg ?_)
     refine CN hO 1 (.int _ _) BU (AB hg (bk hk fun v8 hv8 hk => ?_))
     refine AR (fun _ => NF hv8) (AB hg ?_)
     refine pU ?_
     refine Cq hg (.bool _) ?_
     cases hk; exact pE ek
   ·intro J
    refine pM (.bool _) (bk hk fun t9 ht hk => ?_)
    refine AS (l1 := [_, _, _, _, _, _]) [38, 39, 40, 41, 42, 43] 43 (.bool t9) ?_ ?_
    ·refine bc (b := t7) (fun hg => ?_) (fun hg => ?_)
     ·replace hk := ct hg ht
      refine AE hg (AE hg (AE hg (AE hg (AE hg (Cr hg (.bool _) ?_)))))
      cases hk; exact pE ek
     ·replace hk := cf hg ht
      refine AB hg (E4 hO 1 [_, _, _, _, _] FB CC (AB hg ?_))
      refine pF E6 (AB hg ?_)
      refine CN hO 0 (.lit _ _ _) Da (AB hg (bk hk fun v10 hv10 hk => ?_))
      refine AR (fun _ => Rm hv10) (AB hg ?_)
      refine pU ?_
      refine Cq hg (.bool _) ?_
      cases hk; exact pE ek
    ·intro J
     refine pM (.bool _) (bk hk fun t11 ht hk => ?_)
     refine AS (l1 := [_, _, _, _, _, _]) [45, 46, 47, 48, 49, 50] 50 (.bool t11) ?_ ?_
     ·refine bc (b := t9) (fun hg => ?_) (fun hg => ?_)
      ·replace hk := ct hg ht
       refine AE hg (AE hg (AE hg (AE hg (AE hg (Cr hg (.bool _) ?_)))))
       cases hk; exact pE ek
      ·replace hk := cf hg ht
       refine AB hg (E4 hO 1 [_, _, _, _, _] FB CC (AB hg ?_))
       refine pF EU (AB hg ?_)
       refine CN hO 0 (.lit _ _ _) Da (AB hg (bk hk fun v12 hv12 hk => ?_))
       refine AR (fun _ => Rm hv12) (AB hg ?_)
       refine pU ?_
       refine Cq hg (.bool _) ?_
       cases hk; exact pE ek
     ·intro J
      refine pE (gn (Aq hk (fun hk => ?_) (fun hk => ?_)))
      ·refine A1 (A4 (pA (.bool _) (pE (gn (Aw (gr ?_))))))
       cases hk; exact AT hO
      ·refine Ar (gn (A1 (A1 (A4 (As E6 hO 0 (.lit _ _ _) Da ?_)))))
       refine Af Ex ?_
       refine pM (.int _ _) (pE (gn (BO ?_)))
       refine AA (F := KQ aP0 aW1) (fun s S' => ∃ (J : Nat → V) (G : A3), A5 H G [.Ad b2 (.cells 5 (Cn l6 0 l7 0 l8 0 l9 0 l10 0 aW1)), .Ad b1 (.cells 5 (Ai l1 0 l2 m3 l4 m5 aP0))] ∧ S' = ⟨CM [(2, .ptr b1 0), (3, .ptr b2 0), (52, AN l7 0 aW1.AQ), (53, iv (aW1.AQ.length : Int)), (54, iv s)] J, G⟩) hk ⟨_, _, hO, sh⟩ ?_
       rintro x13 _ y1 ⟨J, G, hO, rfl⟩ hk hx1
       refine A1 (A4 (AW (pE (gn (A1 (Aq hk (fun hk => ?_) (fun hk => ?_)))))))
       ·refine Ar (gn (A1 (BO (A1 (A4 (bk hk fun c14 hc14 hk => pX hc14 Df BB ?_))))))
        refine Br (.agg [_, _]) (G8 (lm := 0) (off := 0) hc14 G3 BB) (CK hO BB FT (fun b15 G hO => ?_))
        refine Cs (xs := [_, _]) hO 0 BB rfl (fun G hO => pE (gn (A1 (A1 (A4 ?_)))))
        refine As EU hO 1 (.lit _ _ _) Da ?_
        refine Af Ex ?_
        refine pM (.int _ _) (pE (gn (BO ?_)))
        refine AA (F := JN aP0 aW1 x13 c14) (fun s S' => ∃ (J : Nat → V) (G : A3), A5 H G [.Ad b15 (.cells 2 [iv c14.Switch, iv c14.FC]), .Ad b2 (.cells 5 (Cn l6 0 l7 0 l8 0 l9 0 l10 0 aW1)), .Ad b1 (.cells 5 (Ai l1 0 l2 m3 l4 m5 aP0))] ∧ S' = ⟨CM [(2, .ptr b1 0), (3, .ptr b2 0), (6, .ptr b15 0), (52, AN l7 0 aW1.AQ), (53, iv (aW1.AQ.length : Int)), (54, iv x13), (59, AN l8 0 aW1.AH), (60, iv (aW1.AH.length : Int)), (61, iv s)] J, G⟩) hk ⟨_, _, hO, sh⟩ ?_
        rintro x16 _ y2 ⟨J, G, hO, rfl⟩ hk hx2
        refine A1 (A4 (AW (pE (gn (A1 (Aq hk (fun hk => ?_) (fun hk => ?_)))))))
        ·refine Ar (gn (A1 (BO (A1 (A4 (bk hk fun c17 hc17 hk => pX hc17 Df BB ?_))))))
         refine Br (.agg [_, _]) (G8 (lm := 0) (off := 0) hc17 G3 BB) (CK hO BB FT (fun b18 G hO => ?_))
         refine Cs (xs := [_, _]) hO 0 BB rfl (fun G hO => pE (gn (A1 (A4 ?_))))
         refine As CP hO 1 (.int _ _) BU ?_
         refine As CP hO 0 (.int _ _) BU ?_
         refine AW (pE (gn (Aq hk (fun hk => ?_) (fun hk => ?_))))
         ·refine A1 (A4 (pA (.bool _) (pE (gn (Aw (br (gr (gr (br (gr (br (gr (gr (br (gr (have hk := lx hx2 hk; have hk := lx hx1 hk; ?_))))))))))))))))
          cases hk; exact AT hO
         ·refine Ar (bn (gn (A4 (AW ?_))))
          refine pM (.int _ _) (pE (gn ?_))
          cases hk; exact ⟨_, rfl, _, _, (pk hO [1, 2, 3]), sh⟩
        ·refine D3 (ge (ge (be (gn (have hk := lx hx2 hk; A1 (BC [(0, true), (1, true), (2, true), (3, true), (4, true), (5, true), (6, true), (7, true), (8, true), (9, false), (10, false)] [_, _, _, _, _, _, _, _, _, _, _] (by decide +kernel) (by rfl) ?_))))))
         refine As DE hO 2 (.lit _ _ _) BK ?_
         refine As CP hO 0 (.int _ _) BU (bk hk fun c19 hc19 hk => ?_)
         refine pX hc19 C4 DP ?_
         refine Br (.int _ _) (D4 (lm := 0) (off := 0) hc19 BU) ?_
         refine Tv (ps := [(0, (.int _ _))]) ([c19] : List Int) C4 DP MO (DG (DH _ _) (Dg)) ?_
         refine As BI hO 1 (.lit _ _ _) BK (bk hk fun v20 hv20 hk => ?_)
         refine AR (vs := [(.tl 1 (A8 0 ([c19] : List Int))), (.lit _ _ _)]) (caps := []) (fun _ => I1 hv20) ?_ (h3 := (BH (XX ([c19] : List Int) 6) (BH rfl EF)))
         refine pU (pE (gn (Aq hk (fun hk => ?_) (fun hk => ?_))))
         ·refine A1 (A4 (pA (.bool _) (pE (gn (Aw (br (gr (gr (br (gr (have hk := lx hx1 hk; ?_)))))))))))
          cases hk; exact AT hO
         ·refine Ar (bn (gn (A4 (AW ?_))))
          refine pM (.int _ _) (pE (gn ?_))
          cases hk; exact ⟨_, rfl, _, _, (pk hO [1, 2]), sh⟩
       ·refine D3 (ge (ge (be (gn (have hk := lx hx1 hk; A1 (A4 (As DU hO 0 (.lit _ _ _) BK ?_)))))))
        refine As BI hO 0 (.lit _ _ _) BK (bk hk fun v21 hv21 hk => ?_)
        refine AR (fun _ => I1 hv21) ?_
        refine pU ?_
        refine pA (.bool _) (pE (gn (Aw ?_)))
        cases hk; exact AT hO
def MX (aP0 : AP) (x15 : Int) (c16 : List Bool) : Int → Option (Int ⊕ (Int ⊕ Ba)) := fun s =>
 (bif decide (s < (c16.length : Int)) then ((AK c16 s).bind fun c18 => ((AK aP0.BV s).bind fun c19 => ((AK c19 x15).bind fun c20 => ((bif !(c18 == c20) then some true else ((bif ((x15 != s) && !c18) then ((AK aP0.A7 x15).bind fun c23 => ((AK aP0.A7 s).bind fun c24 => ((XE c23.A0 c24.A0).bind fun v25 => some v25))) else some false).bind fun t22 => some t22)).bind fun t21 => (bif t21 then (((some ({ Code := (5:Int), At := x15 } : Ba)).map Sum.inr).map Sum.inr) else some (.inl (BT (s + (1:Int))))))))) else ((some (.inl (BT (x15 + (1:Int))))).map Sum.inr))
def Gw (aP0 : AP) : Int → Option (Int ⊕ Ba) := fun s =>
 (bif decide (s < (aP0.BV.length : Int)) then ((AK aP0.BV s).bind fun c16 => (AJ (MX aP0 s c16) ((0:Int)))) else ((some ({ Code := 0, At := 0 } : Ba)).map Sum.inr))
def JK (aP0 : AP) : Int → Option (Int ⊕ Ba) := fun s =>
 (bif decide (s < (aP0.BV.length : Int)) then ((AK aP0.BV s).bind fun c14 => (bif ((c14.length : Int) != (aP0.A7.length : Int)) then ((some ({ Code := (4:Int), At := s } : Ba)).map Sum.inr) else some (.inl (BT (s + (1:Int)))))) else ((AJ (Gw aP0) ((0:Int))).map Sum.inr))
def JJ (aP0 : AP) : Int → Option (Int ⊕ Ba) := fun s =>
 (bif decide (s < (aP0.A7.length : Int)) then ((AK aP0.A7 s).bind fun c10 => ((Wh aP0 c10).bind fun v12 => (bif !v12 then ((some ({ Code := (3:Int), At := s } : Ba)).map Sum.inr) else some (.inl (BT (s + (1:Int))))))) else ((bif ((aP0.BV.length : Int) != (aP0.A7.length : Int)) then some ({ Code := (4:Int), At := 0 } : Ba) else (AJ (JK aP0) ((0:Int)))).map Sum.inr))
def Ht (aP0 : AP) : Int → Option (Int ⊕ Ba) := fun s =>
 (bif decide (s < (aP0.A6.length : Int)) then ((AK aP0.A6 s).bind fun c7 => ((TD c7 (0:Int) (BT (aP0.A0 - (1:Int)))).bind fun v8 => (bif !v8 then ((some ({ Code := (2:Int), At := s } : Ba)).map Sum.inr) else some (.inl (BT (s + (1:Int))))))) else ((AJ (JJ aP0) ((0:Int))).map Sum.inr))
def Rf (aP0 : AP) : Option Ba :=
 ((TD aP0.A0 (1:Int) (60:Int)).bind fun v3 => ((bif ((!v3 || decide ((aP0.A6.length : Int) > (40:Int))) || decide ((aP0.A7.length : Int) > (100:Int))) then some true else ((TD aP0.E8 (1:Int) (300:Int)).bind fun v5 => some (!v5))).bind fun t4 => (bif t4 then some ({ Code := (1:Int), At := 0 } : Ba) else (AJ (Ht aP0) ((0:Int))))))
theorem WU {aP0 : AP} {r : Ba} {l1 l2 m3 l4 m5 : Nat} (hk : Rf aP0 = some r) (hlk : 0 < lk.length := by simp) : Am Tryz.prog hh 104 [.agg (Ai l1 0 l2 m3 l4 m5 aP0)] H lk = some (.agg [iv r.Code, iv r.At], H) := by
 refine AI Tryz.func104 rfl Tryz.ntmps104 Tryz.results104 rfl rfl fun hO => ?_
 unfold Rf at hk
 refine A1 (A4 (BZ (cs := [_, _, _, _, _]) hO CC (fun b1 G hO => CK hO D0 FU (fun b2 G hO => pE (gn (A1 (A1 (A4 ?_))))))))
 refine As EK hO 1 (.int _ _) BU (bk hk fun v3 hv3 hk => ?_)
 refine AR (fun _ => Ed hv3) ?_
 refine pU ?_
 refine pM (.bool _) ?_
 refine AS (l1 := [_, _, _, _, _]) [18, 19, 20, 21, 22] 22 (.bool (!v3 || decide ((aP0.A6.length : Int) > (40:Int)))) ?_ ?_
 ·refine bc (b := !v3) (fun hg => ?_) (fun hg => ?_)
  ·refine AE hg (AE hg (AE hg (AE hg (Cr hg (.bool _) ?_))))
   exact pE (ek (by rw [hg]; rfl))
  ·refine AB hg (pF DE (AB hg ?_))
   refine CN hO 1 (.lit _ _ _) BK (AB hg ?_)
   refine Af D5 (AB hg ?_)
   refine AW ?_
   refine Cq hg (.bool _) ?_
   exact pE (ek (by rw [hg]; rfl))
 ·intro J
  refine pM (.bool _) ?_
  refine AS (l1 := [_, _, _, _, _]) [24, 25, 26, 27, 28] 28 (.bool ((!v3 || decide ((aP0.A6.length : Int) > (40:Int))) || decide ((aP0.A7.length : Int) > (100:Int)))) ?_ ?_
  ·refine bc (b := (!v3 || decide ((aP0.A6.length : Int) > (40:Int)))) (fun hg => ?_) (fun hg => ?_)
   ·refine AE hg (AE hg (AE hg (AE hg (Cr hg (.bool _) ?_))))
    exact pE (ek (by rw [hg]; rfl))
   ·refine AB hg (pF Bl (AB hg ?_))
    refine CN hO 1 (.lit _ _ _) Du (AB hg ?_)
    refine Af IZ (AB hg ?_)
    refine AW ?_
    refine Cq hg (.bool _) ?_
    exact pE (ek (by rw [hg]; rfl))
  ·intro J
   refine pM (.bool _) (bk hk fun t4 ht hk => ?_)
   refine AS (l1 := [_, _, _, _, _]) [30, 31, 32, 33, 34] 34 (.bool t4) ?_ ?_
   ·refine bc (b := ((!v3 || decide ((aP0.A6.length : Int) > (40:Int))) || decide ((aP0.A7.length : Int) > (100:Int)))) (fun hg => ?_) (fun hg => ?_)
    ·replace hk := ct hg ht
     refine AE hg (AE hg (AE hg (AE hg (Cr hg (.bool _) ?_))))
     cases hk; exact pE ek
    ·replace hk := cf hg ht
     refine AB hg (pF K6 (AB hg ?_))
     refine CN hO 1 (.int _ _) BU (AB hg (bk hk fun v5 hv5 hk => ?_))
     refine AR (fun _ => Ed hv5) (AB hg ?_)
     refine pU ?_
     refine Cq hg (.bool _) ?_
     cases hk; exact pE ek
   ·intro J
    refine pE (gn (Aq hk (fun hk => ?_) (fun hk => ?_)))
    ·refine A1 (A4 (R9 [_, _] FU Gm ?_))
     refine Cs (xs := [_, _]) hO 0 D0 rfl (fun G hO => pE (gn (Aw (gr ?_))))
     replace hk := Option.some.inj hk; subst hk; exact Gp hO (Ds (n := 2) (DL (C7 _ _) (DL (C7 _ _) (HX)))) (G9 hO 0 [_, _] HC D0 Dl)
    ·refine Ar (gn (A1 (A1 (A4 (As DE hO 1 (.lit _ _ _) BK ?_)))))
     refine Af D5 ?_
     refine pM (.int _ _) (pE (gn (BO ?_)))
     refine AA (F := Ht aP0) (fun s S' => ∃ (J : Nat → V) (G : A3), A5 H G [.Ad b2 (.cells 2 [iv 0, iv 0]), .Ad b1 (.cells 5 (Ai l1 0 l2 m3 l4 m5 aP0))] ∧ S' = ⟨CM [(1, .ptr b1 0), (2, .ptr b2 0), (37, AN l1 0 aP0.A6), (38, iv (aP0.A6.length : Int)), (39, iv s)] J, G⟩) hk ⟨_, _, hO, sh⟩ ?_
     rintro x6 _ y1 ⟨J, G, hO, rfl⟩ hk hx1
     refine A1 (A4 (AW (pE (gn (A1 (Aq hk (fun hk => ?_) (fun hk => ?_)))))))
     ·refine Ar (gn (A1 (BO (A1 (A4 (pM (.int _ _) (bk hk fun c7 hc7 hk => ?_)))))))
      refine pX hc7 C4 DP ?_
      refine Br (.int _ _) (D4 (lm := 0) (off := 0) hc7 BU) ?_
      refine pA (.int _ _) ?_
      refine pA (.int _ _) (pE (gn (A1 (A4 ?_))))
      refine pM (.int _ _) ?_
      refine As EK hO 1 (.int _ _) BU ?_
      refine AW (bk hk fun v8 hv8 hk => ?_)
      refine AR (fun _ => Ed hv8) ?_
      refine pU (pE (gn (Aq hk (fun hk => ?_) (fun hk => ?_))))
      ·refine A1 (A4 (pM (.int _ _) ?_))
       refine R9 [_, _] FU Gm ?_
       refine Cs (xs := [_, _]) hO 0 D0 rfl (fun G hO => pE (gn (Aw (br (gr (gr (br (gr (have hk := lx hx1 hk; ?_)))))))))
       replace hk := Option.some.inj hk; subst hk; exact Gp hO (Ds (n := 2) (DL (C7 _ _) (DL (C7 _ _) (HX)))) (G9 hO 0 [_, _] HC D0 Dl)
      ·refine Ar (bn (gn (A4 (AW ?_))))
       refine pM (.int _ _) (pE (gn ?_))
       cases hk; exact ⟨_, rfl, _, _, hO, sh⟩
     ·refine D3 (ge (ge (be (gn (have hk := lx hx1 hk; A1 (A1 (A4 (As Bl hO 1 (.lit _ _ _) Du ?_))))))))
      refine Af IZ ?_
      refine pM (.int _ _) (pE (gn (BO ?_)))
      refine AA (F := JJ aP0) (fun s S' => ∃ (J : Nat → V) (G : A3), A5 H G [.Ad b2 (.cells 2 [iv 0, iv 0]), .Ad b1 (.cells 5 (Ai l1 0 l2 m3 l4 m5 aP0))] ∧ S' = ⟨CM [(1, .ptr b1 0), (2, .ptr b2 0), (54, AN l2 m3 aP0.A7), (55, iv (aP0.A7.length : Int)), (56, iv s)] J, G⟩) hk ⟨_, _, hO, sh⟩ ?_
      rintro x9 _ y1 ⟨J, G, hO, rfl⟩ hk hx1
      refine A1 (A4 (AW (pE (gn (A1 (Aq hk (fun hk => ?_) (fun hk => ?_)))))))
      ·refine Ar (gn (A1 (BO (A1 (A4 (pM (.int _ _) (bk hk fun c10 hc10 hk => ?_)))))))
       refine pX hc10 Er Az ?_
       refine Br (.agg [_, _, _, _, _]) (G8 (lm := m3) (off := 0) hc10 Ew Az) (CK hO Az IU (fun b11 G hO => ?_))
       refine pA (.int _ _) ?_
       refine Cs (xs := [_, _, _, _, _]) hO 0 Az rfl (fun G hO => pE (gn (A1 (A4 ?_))))
       refine E4 hO 2 [_, _, _, _, _] FB CC ?_
       refine E4 hO 0 [_, _, _, _, _] Ew Az (bk hk fun v12 hv12 hk => ?_)
       refine AR (fun _ => Wi hv12) ?_
       refine pU (pE (gn (Aq hk (fun hk => ?_) (fun hk => ?_))))
       ·refine A1 (A4 (pM (.int _ _) ?_))
        refine R9 [_, _] FU Gm ?_
        refine Cs (xs := [_, _]) hO 1 D0 rfl (fun G hO => pE (gn (Aw (br (gr (gr (br (gr (have hk := lx hx1 hk; ?_)))))))))
        replace hk := Option.some.inj hk; subst hk; exact Gp hO (Ds (n := 2) (DL (C7 _ _) (DL (C7 _ _) (HX)))) (G9 hO 1 [_, _] HC D0 Dl)
       ·refine Ar (bn (gn (A4 (AW ?_))))
        refine pM (.int _ _) (pE (gn ?_))
        cases hk; exact ⟨_, rfl, _, _, (pk hO [1, 2]), sh⟩
      ·refine D3 (ge (ge (be (gn (have hk := lx hx1 hk; A1 (A1 (A4 (As EL hO 1 (.lit _ _ _) IW ?_))))))))
       refine Af Lv ?_
       refine As Bl hO 1 (.lit _ _ _) Du ?_
       refine Af IZ ?_
       refine AW (pE (gn (Aq hk (fun hk => ?_) (fun hk => ?_))))
       ·refine A1 (A4 (R9 [_, _] FU Gm ?_))
        refine Cs (xs := [_, _]) hO 0 D0 rfl (fun G hO => pE (gn (Aw (gr ?_))))
        replace hk := Option.some.inj hk; subst hk; exact Gp hO (Ds (n := 2) (DL (C7 _ _) (DL (C7 _ _) (HX)))) (G9 hO 0 [_, _] HC D0 Dl)
       ·refine Ar (gn (A1 (A1 (A4 (As EL hO 1 (.lit _ _ _) IW ?_)))))
        refine Af Lv ?_
        refine pM (.int _ _) (pE (gn (BO ?_)))
        refine AA (F := JK aP0) (fun s S' => ∃ (J : Nat → V) (G : A3), A5 H G [.Ad b2 (.cells 2 [iv 0, iv 0]), .Ad b1 (.cells 5 (Ai l1 0 l2 m3 l4 m5 aP0))] ∧ S' = ⟨CM [(1, .ptr b1 0), (2, .ptr b2 0), (77, AN l4 m5 aP0.BV), (78, iv (aP0.BV.length : Int)), (79, iv s)] J, G⟩) hk ⟨_, _, hO, sh⟩ ?_
        rintro x13 _ y1 ⟨J, G, hO, rfl⟩ hk hx1
        refine A1 (A4 (AW (pE (gn (A1 (Aq hk (fun hk => ?_) (fun hk => ?_)))))))
        ·refine Ar (gn (A1 (BO (A1 (A4 (pM (.int _ _) (bk hk fun c14 hc14 hk => ?_)))))))
         refine pX hc14 IX GB ?_
         refine Br (.lit _ _ _) (D4 (lm := m5) (off := 0) hc14 C8) ?_
         refine pA (.int _ _) ?_
         refine pA (.lit _ _ _) (pE (gn (A1 (A4 ?_))))
         refine pM (.lit _ _ _) ?_
         refine Af HO ?_
         refine As Bl hO 1 (.lit _ _ _) Du ?_
         refine Af IZ ?_
         refine AW (pE (gn (Aq hk (fun hk => ?_) (fun hk => ?_))))
         ·refine A1 (A4 (pM (.int _ _) ?_))
          refine R9 [_, _] FU Gm ?_
          refine Cs (xs := [_, _]) hO 0 D0 rfl (fun G hO => pE (gn (Aw (br (gr (gr (br (gr (have hk := lx hx1 hk; ?_)))))))))
          replace hk := Option.some.inj hk; subst hk; exact Gp hO (Ds (n := 2) (DL (C7 _ _) (DL (C7 _ _) (HX)))) (G9 hO 0 [_, _] HC D0 Dl)
         ·refine Ar (bn (gn (A4 (AW ?_))))
          refine pM (.int _ _) (pE (gn ?_))
          cases hk; exact ⟨_, rfl, _, _, hO, sh⟩
        ·refine D3 (ge (ge (be (gn (have hk := lx hx1 hk; A1 (A1 (A4 (As EL hO 1 (.lit _ _ _) IW ?_))))))))
         refine Af Lv ?_
         refine pM (.int _ _) (pE (gn (BO ?_)))
         refine AA (F := Gw aP0) (fun s S' => ∃ (J : Nat → V) (G : A3), A5 H G [.Ad b2 (.cells 2 [iv 0, iv 0]), .Ad b1 (.cells 5 (Ai l1 0 l2 m3 l4 m5 aP0))] ∧ S' = ⟨CM [(1, .ptr b1 0), (2, .ptr b2 0), (94, AN l4 m5 aP0.BV), (95, iv (aP0.BV.length : Int)), (96, iv s)] J, G⟩) hk ⟨_, _, hO, sh⟩ ?_
         rintro x15 _ y1 ⟨J, G, hO, rfl⟩ hk hx1
         refine A1 (A4 (AW (pE (gn (A1 (Aq hk (fun hk => ?_) (fun hk => ?_)))))))
         ·refine Ar (gn (A1 (BO (A1 (A4 (pM (.int _ _) (bk hk fun c16 hc16 hk => ?_)))))))
          refine pX hc16 IX GB ?_
          refine Br (.lit _ _ _) (D4 (lm := m5) (off := 0) hc16 C8) ?_
          refine pA (.int _ _) ?_
          refine pA (.lit _ _ _) (pE (gn (A1 (A4 ?_))))
          refine pM (.lit _ _ _) ?_
          refine Af HO ?_
          refine pM (.int _ _) (pE (gn (BO ?_)))
          refine AA (F := MX aP0 x15 c16) (fun s S' => ∃ (J : Nat → V) (G : A3), A5 H G [.Ad b2 (.cells 2 [iv 0, iv 0]), .Ad b1 (.cells 5 (Ai l1 0 l2 m3 l4 m5 aP0))] ∧ S' = ⟨CM [(1, .ptr b1 0), (2, .ptr b2 0), (9, iv x15), (94, AN l4 m5 aP0.BV), (95, iv (aP0.BV.length : Int)), (96, iv x15), (101, AN m5 0 c16), (102, iv (c16.length : Int)), (103, iv s)] J, G⟩) hk ⟨_, _, hO, sh⟩ ?_
          rintro x17 _ y2 ⟨J, G, hO, rfl⟩ hk hx2
          refine A1 (A4 (AW (pE (gn (A1 (Aq hk (fun hk => ?_) (fun hk => ?_)))))))
          ·refine Ar (gn (A1 (BO (A1 (A4 (pM (.int _ _) (bk hk fun c18 hc18 hk => ?_)))))))
           refine pX hc18 Cl FO ?_
           refine Br (.bool _) (D4 (lm := 0) (off := 0) hc18 Fk) ?_
           refine pA (.int _ _) ?_
           refine pA (.bool _) (pE (gn (A1 ?_)))
           refine BC [(0, true), (1, false), (2, true), (3, true), (4, false), (5, true), (6, true), (7, false), (8, true), (9, false), (10, false), (11, false), (12, false), (13, false), (14, false), (15, false), (16, false), (17, false), (18, false), (19, true), (20, true), (21, true), (22, true), (23, true), (24, true), (25, true), (26, true), (27, true), (28, true), (29, true), (30, true), (31, false), (32, false), (33, false)] [_, _, _, _, _, _, _, _, _, _, _, _, _, _, _, _, _, _, _, _, _, _, _, _, _, _, _, _, _, _, _, _, _, _] (by decide +kernel) (by rfl) ?_
           refine pM (.bool _) ?_
           refine As EL hO 1 (.lit _ _ _) IW ?_
           refine pM (.int _ _) (bk hk fun c19 hc19 hk => ?_)
           refine pX hc19 IX GB ?_
           refine Br (.lit _ _ _) (D4 (lm := m5) (off := 0) hc19 C8) ?_
           refine pM (.int _ _) (bk hk fun c20 hc20 hk => ?_)
           refine pX hc20 Cl FO ?_
           refine Br (.bool _) (D4 (lm := 0) (off := 0) hc20 Fk) ?_
           refine Zu Tryz.underlying4 ?_
           refine pM (.bool _) (bk hk fun t21 ht hk => ?_)
           refine AS (l1 := [_, _, _, _, _, _, _, _, _, _, _, _, _, _, _, _, _, _, _, _, _, _, _]) [119, 120, 121, 122, 123, 124, 125, 126, 127, 128, 129, 130, 131, 132, 133, 134, 135, 136, 137, 138, 139, 140, 141] 141 (.bool t21) ?_ ?_
           ·refine bc (b := !(c18 == c20)) (fun hg => ?_) (fun hg => ?_)
            ·replace hk := ct hg ht
             refine AE hg (AE hg (AE hg (AE hg (CW (CW (AE hg (AE hg (CW (CW (CW (CW (CW (CW (CW (CW (CW (CW (CW (CW (CW (AE hg (Cr hg (.bool _) ?_))))))))))))))))))))))
             cases hk; exact pE ek
            ·replace hk := cf hg ht
             refine AB hg (pM (.int _ _) (AB hg ?_))
             refine pM (.int _ _) (AB hg ?_)
             refine AW (AB hg ?_)
             refine pM (.bool _) ?_
             refine AS (l1 := [_, _, _]) [123, 124, 125] 125 (.bool ((x15 != x17) && !c18)) ?_ ?_
             ·refine bc (b := (x15 != x17)) (fun hg2 => ?_) (fun hg2 => ?_)
              ·refine AB hg2 (pM (.bool _) (AB hg2 ?_))
               refine pU (AB hg ?_)
               refine Cr hg2 (.bool _) ?_
               exact pE (ek (by rw [hg2]; rfl))
              ·refine AE hg2 (AE hg2 (AB hg (Cq hg2 (.bool _) ?_)))
               exact pE (ek (by rw [hg2]; rfl))
             ·intro J
              refine AB hg (pM (.bool _) (bk hk fun t22 ht hk => ?_))
              refine AS (l1 := [_, _, _, _, _, _, _, _, _, _, _, _, _, _]) [127, 128, 129, 130, 131, 132, 133, 134, 135, 136, 137, 138, 139, 140] 140 (.bool t22) ?_ ?_
              ·refine bc (b := ((x15 != x17) && !c18)) (fun hg2 => ?_) (fun hg2 => ?_)
               ·replace hk := ct hg2 ht
                refine AB hg2 (pF Bl (AB hg2 ?_))
                refine CN hO 1 (.lit _ _ _) Du (AB hg2 ?_)
                refine pM (.int _ _) (AB hg2 (bk hk fun c23 hc23 hk => ?_))
                refine pX hc23 Er Az (AB hg2 ?_)
                refine pF BI (AB hg2 ?_)
                refine Br (.lit _ _ _) (D4 (lm := m3) (off := 0) hc23 BK) (AB hg2 ?_)
                refine pF Bl (AB hg2 ?_)
                refine CN hO 1 (.lit _ _ _) Du (AB hg2 ?_)
                refine pM (.int _ _) (AB hg2 (bk hk fun c24 hc24 hk => ?_))
                refine pX hc24 Er Az (AB hg2 ?_)
                refine pF BI (AB hg2 ?_)
                refine Br (.lit _ _ _) (D4 (lm := m3) (off := 0) hc24 BK) (AB hg2 (bk hk fun v25 hv25 hk => ?_))
                refine AR (fun _ => I1 hv25) (AB hg ?_)
                refine Cr hg2 (.bool _) ?_
                cases hk; exact pE ek
               ·replace hk := cf hg2 ht
                refine AE hg2 (AE hg2 (AE hg2 (AE hg2 (AE hg2 (AE hg2 (AE hg2 (AE hg2 (AE hg2 (AE hg2 (AE hg2 (AE hg2 (AE hg2 (AB hg (Cq hg2 (.bool _) ?_))))))))))))))
                cases hk; exact pE ek
              ·intro J
               refine Cq hg (.bool _) ?_
               cases hk; exact pE ek
           ·intro J
            refine pE (gn (Aq hk (fun hk => ?_) (fun hk => ?_)))
            ·refine A1 (A4 (pM (.int _ _) ?_))
             refine R9 [_, _] FU Gm ?_
             refine Cs (xs := [_, _]) hO 0 D0 rfl (fun G hO => pE (gn (Aw (br (gr (gr (br (br (gr (gr (br (gr (have hk := lx hx2 hk; have hk := lx hx1 hk; ?_)))))))))))))
             replace hk := Option.some.inj hk; subst hk; exact Gp hO (Ds (n := 2) (DL (C7 _ _) (DL (C7 _ _) (HX)))) (G9 hO 0 [_, _] HC D0 Dl)
            ·refine Ar (bn (gn (A4 (AW ?_))))
             refine pM (.int _ _) (pE (gn ?_))
             cases hk; exact ⟨_, rfl, _, _, hO, sh⟩
          ·refine D3 (ge (ge (be (bn (gn (have hk := lx hx2 hk; A4 (AW ?_)))))))
           refine pM (.int _ _) (pE (gn ?_))
           cases hk; exact ⟨_, rfl, _, _, hO, sh⟩
         ·refine D3 (ge (ge (be (gn (have hk := lx hx1 hk; A1 (A4 (R9 [_, _] FU Gm ?_)))))))
          refine Cs (xs := [_, _]) hO 0 D0 rfl (fun G hO => pE (gn (Aw ?_)))
          replace hk := Option.some.inj hk; subst hk; exact Gp hO (Ds (n := 2) (DL (C7 _ _) (DL (C7 _ _) (HX)))) (G9 hO 0 [_, _] HC D0 Dl)
def gW (aP0 : AP) : Option Bool :=
 ((Rf aP0).bind fun v2 => some (v2.Code == (0:Int)))
theorem ZL {aP0 : AP} {r : Bool} {l1 l2 m3 l4 m5 : Nat} (hk : gW aP0 = some r) (hlk : 0 < lk.length := by simp) : Am Tryz.prog hh 72 [.agg (Ai l1 0 l2 m3 l4 m5 aP0)] H lk = some (.bool r, H) := by
 refine AI Tryz.func72 rfl Tryz.ntmps72 Tryz.results72 rfl rfl fun hO => ?_
 unfold gW at hk
 refine A1 (A4 (BZ (cs := [_, _, _, _, _]) hO CC (fun b1 G hO => ?_)))
 refine pA (.bool _) (pE (gn (A1 (A4 ?_))))
 refine E4 hO 0 [_, _, _, _, _] FB CC (bk hk fun v2 hv2 hk => ?_)
 refine AR (fun _ => WU hv2) (CK hO D0 FU (fun b3 G hO => ?_))
 refine Cs (xs := [_, _]) hO 0 D0 rfl (fun G hO => pE (gn (A1 (A4 ?_))))
 refine As aE hO 0 (.int _ _) BU ?_
 refine AW ?_
 refine pA (.bool _) (pE (gn (Aw ?_)))
 cases hk; exact AT hO
def Nj (aP0 : AP) (c3 : AG) : Int → Option (Int ⊕ Bool) := fun s =>
 (bif decide (s < c3.Ab) then ((AK c3.Aa s).bind fun c10 => (bif !c10 then ((some false).map Sum.inr) else some (.inl (BT (s + (1:Int)))))) else ((bif (c3.State == (3:Int)) then ((bif c3.Shown then ((TD c3.Timer (1:Int) aP0.E8).bind fun v12 => some v12) else some false).bind fun t11 => some t11) else some (((c3.Timer == (0:Int)) && ((c3.State != (0:Int)) || !c3.Shown)) && ((c3.State != (2:Int)) || c3.Shown))).map Sum.inr))
def LM (aP0 : AP) (c3 : AG) : Option Bool :=
 (AJ (Nj aP0 c3) ((0:Int)))
def Nk (aP0 : AP) (c3 : AG) : Int → Option (Int ⊕ Bool) := fun s =>
 (bif decide (s < (c3.Aa.length : Int)) then ((AK c3.Aa s).bind fun c14 => (bif c14 then ((some false).map Sum.inr) else some (.inl (BT (s + (1:Int)))))) else ((bif (c3.Ab != (0:Int)) then some false else (LM aP0 c3)).map Sum.inr))
def fB (aP0 : AP) (aF1 : AD) (aI2 : Int) : Option Bool :=
 ((AK aF1.A7 aI2).bind fun c3 => ((AK aP0.A7 aI2).bind fun c5 => ((TD c3.State (0:Int) (4:Int)).bind fun v6 => ((bif (!v6 || ((c3.Aa.length : Int) != (c5.A0.length : Int))) then some true else ((TD c3.Ab (0:Int) (BT ((c5.A0.length : Int) - (1:Int)))).bind fun v8 => some (!v8))).bind fun t7 => (bif t7 then some false else (bif (c3.State != (4:Int)) then (AJ (Nk aP0 c3) ((0:Int))) else (LM aP0 c3)))))))
theorem ZM {aP0 : AP} {aF1 : AD} {aI2 : Int} {r : Bool} {l1 l2 m3 l4 m5 l6 l7 l8 m9 : Nat} (hk : fB aP0 aF1 aI2 = some r) (hlk : 0 < lk.length := by simp) : Am Tryz.prog hh 73 [.agg (Ai l1 0 l2 m3 l4 m5 aP0), .agg (Ah l6 0 l7 0 l8 m9 aF1), iv aI2] H lk = some (.bool r, H) := by
 refine AI Tryz.func73 rfl Tryz.ntmps73 Tryz.results73 rfl rfl fun hO => ?_
 unfold fB at hk
 refine A1 (A4 (BZ (cs := [_, _, _, _, _]) hO CC (fun b1 G hO => ?_)))
 refine BZ (cs := [_, _, _, _]) hO Bv (fun b2 G hO => ?_)
 refine pA (.bool _) (pE (gn (A1 (A4 ?_))))
 refine As Bd hO 0 (.lit _ _ _) Dv ?_
 refine pM (.int _ _) (bk hk fun c3 hc3 hk => ?_)
 refine pX hc3 EJ Av ?_
 refine Br (.agg [_, _, _, _, _]) (G8 (lm := m9) (off := 0) hc3 G0 Av) (CK hO Av FN (fun b4 G hO => ?_))
 refine Cs (xs := [_, _, _, _, _]) hO 0 Av rfl (fun G hO => pE (gn (A1 (A4 ?_))))
 refine As Bl hO 2 (.lit _ _ _) Du ?_
 refine pM (.int _ _) (bk hk fun c5 hc5 hk => ?_)
 refine pX hc5 Er Az ?_
 refine pF BI ?_
 refine Br (.lit _ _ _) (D4 (lm := m3) (off := 0) hc5 BK) ?_
 refine Af D5 ?_
 refine pA (.int _ _) (pE (gn (A1 (A1 (A4 ?_)))))
 refine As B8 hO 0 (.int _ _) BU (bk hk fun v6 hv6 hk => ?_)
 refine AR (fun _ => Ed hv6) ?_
 refine pU ?_
 refine pM (.bool _) ?_
 refine AS (l1 := [_, _, _, _, _, _]) [29, 30, 31, 32, 33, 34] 34 (.bool (!v6 || ((c3.Aa.length : Int) != (c5.A0.length : Int)))) ?_ ?_
 ·refine bc (b := !v6) (fun hg => ?_) (fun hg => ?_)
  ·refine AE hg (AE hg (AE hg (AE hg (AE hg (Cr hg (.bool _) ?_)))))
   exact pE (ek (by rw [hg]; rfl))
  ·refine AB hg (pF C3 (AB hg ?_))
   refine CN hO 0 (.lit _ _ _) C8 (AB hg ?_)
   refine Af HO (AB hg ?_)
   refine pM (.int _ _) (AB hg ?_)
   refine AW ?_
   refine Cq hg (.bool _) ?_
   exact pE (ek (by rw [hg]; rfl))
 ·intro J
  refine pM (.bool _) (bk hk fun t7 ht hk => ?_)
  refine AS (l1 := [_, _, _, _, _, _, _]) [36, 37, 38, 39, 40, 41, 42] 42 (.bool t7) ?_ ?_
  ·refine bc (b := (!v6 || ((c3.Aa.length : Int) != (c5.A0.length : Int)))) (fun hg => ?_) (fun hg => ?_)
   ·replace hk := ct hg ht
    refine AE hg (AE hg (AE hg (AE hg (AE hg (AE hg (Cr hg (.bool _) ?_))))))
    cases hk; exact pE ek
   ·replace hk := cf hg ht
    refine AB hg (pF Bw (AB hg ?_))
    refine CN hO 0 (.int _ _) BU (AB hg ?_)
    refine pM (.int _ _) (AB hg ?_)
    refine AW (AB hg (bk hk fun v8 hv8 hk => ?_))
    refine AR (fun _ => Ed hv8) (AB hg ?_)
    refine pU ?_
    refine Cq hg (.bool _) ?_
    cases hk; exact pE ek
  ·intro J
   refine pE (gn (Aq hk (fun hk => ?_) (fun hk => ?_)))
   ·refine A1 (A4 (pA (.bool _) (pE (gn (Aw (gr ?_))))))
    cases hk; exact AT hO
   ·refine Ar (gn (CQ (fun S' => ∃  (J : Nat → V) (G : A3), LM aP0 c3 = some r ∧ A5 H G [.Ad b4 (.cells 5 [iv c3.State, iv c3.Ab, AN m9 0 c3.Aa, .bool c3.Shown, iv c3.Timer]), .Ad b1 (.cells 5 (Ai l1 0 l2 m3 l4 m5 aP0))] ∧ S' = ⟨CM [(3, .ptr b1 0), (7, .ptr b4 0)] J, G⟩) ?_ ?_))
    ·refine A1 (A4 (As B8 hO 0 (.int _ _) BU ?_))
     refine AW (pE (gn (Aq hk (fun hk => ?_) (fun hk => ?_))))
     ·refine A1 (A1 (A4 (As C3 hO 0 (.lit _ _ _) C8 ?_)))
      refine Af HO ?_
      refine pM (.int _ _) (pE (gn (BO ?_)))
      refine AA (F := Nk aP0 c3) (fun s S' => ∃ (J : Nat → V) (G : A3), A5 H G [.Ad b4 (.cells 5 [iv c3.State, iv c3.Ab, AN m9 0 c3.Aa, .bool c3.Shown, iv c3.Timer]), .Ad b1 (.cells 5 (Ai l1 0 l2 m3 l4 m5 aP0))] ∧ S' = ⟨CM [(3, .ptr b1 0), (7, .ptr b4 0), (47, AN m9 0 c3.Aa), (48, iv (c3.Aa.length : Int)), (49, iv s)] J, G⟩) hk ⟨_, _, (pk hO [0, 2]), sh⟩ ?_
      rintro x13 _ y1 ⟨J, G, hO, rfl⟩ hk hx1
      refine A1 (A4 (AW (pE (gn (A1 (Aq hk (fun hk => ?_) (fun hk => ?_)))))))
      ·refine Ar (gn (A1 (BO (A1 (A4 (bk hk fun c14 hc14 hk => pX hc14 Cl FO ?_))))))
       refine Br (.bool _) (D4 (lm := 0) (off := 0) hc14 Fk) ?_
       refine pA (.bool _) (pE (gn (A1 (A4 ?_))))
       refine pM (.bool _) (pE (gn (Aq hk (fun hk => ?_) (fun hk => ?_))))
       ·refine A1 (A4 (pA (.bool _) (pE (gn (Aw (br (gr (gr (br (gr (gr (have hk := lx hx1 hk; ?_))))))))))))
        cases hk; exact AT hO
       ·refine Ar (bn (gn (A4 (AW ?_))))
        refine pM (.int _ _) (pE (gn ?_))
        cases hk; exact ⟨_, rfl, _, _, hO, sh⟩
      ·refine D3 (ge (ge (be (gn (have hk := lx hx1 hk; A1 (A4 (As Bw hO 0 (.int _ _) BU ?_)))))))
       refine AW (pE (gn (Aq hk (fun hk => ?_) (fun hk => ?_))))
       ·refine A1 (A4 (pA (.bool _) (pE (gn (Aw (gr ?_))))))
        cases hk; exact AT hO
       ·exact Ar (gn (⟨_, _, hk, hO, sh⟩))
     ·exact Ar (gn (⟨_, _, hk, (pk hO [0, 2]), sh⟩))
    ·rintro _ ⟨J, G, hk, hO, rfl⟩
     refine A1 (A1 (A4 (pA (.int _ _) (pE (gn (BO ?_))))))
     refine AA (F := Nj aP0 c3) (fun s S' => ∃ (J : Nat → V) (G : A3), A5 H G [.Ad b4 (.cells 5 [iv c3.State, iv c3.Ab, AN m9 0 c3.Aa, .bool c3.Shown, iv c3.Timer]), .Ad b1 (.cells 5 (Ai l1 0 l2 m3 l4 m5 aP0))] ∧ S' = ⟨CM [(3, .ptr b1 0), (7, .ptr b4 0), (11, iv s)] J, G⟩) hk ⟨_, _, hO, sh⟩ ?_
     rintro x9 _ y1 ⟨J, G, hO, rfl⟩ hk hx1
     refine A1 (A1 (A4 (pM (.int _ _) ?_)))
     refine As Bw hO 0 (.int _ _) BU ?_
     refine AW (pE (gn (Aq hk (fun hk => ?_) (fun hk => ?_))))
     ·refine Ar (gn (A1 (BO (A1 (A4 (As C3 hO 0 (.lit _ _ _) C8 ?_))))))
      refine pM (.int _ _) (bk hk fun c10 hc10 hk => ?_)
      refine pX hc10 Cl FO ?_
      refine Br (.bool _) (D4 (lm := 0) (off := 0) hc10 Fk) ?_
      refine pU (pE (gn (Aq hk (fun hk => ?_) (fun hk => ?_))))
      ·refine A1 (A4 (pA (.bool _) (pE (gn (Aw (br (gr (gr (br (gr (have hk := lx hx1 hk; ?_)))))))))))
       cases hk; exact AT hO
      ·refine Ar (bn (gn (A4 (pM (.int _ _) ?_))))
       refine AW ?_
       refine pA (.int _ _) (pE (gn ?_))
       cases hk; exact ⟨_, rfl, _, _, hO, sh⟩
     ·refine D3 (ge (ge (be (gn (have hk := lx hx1 hk; A1 (A1 (A4 (As B8 hO 0 (.int _ _) BU ?_))))))))
      refine AW (pE (gn (Aq hk (fun hk => ?_) (fun hk => ?_))))
      ·refine A1 (A4 (As Dm hO 0 (.bool _) Fk ?_))
       refine pM (.bool _) (bk hk fun t11 ht hk => ?_)
       refine AS (l1 := [_, _, _, _, _, _]) [76, 77, 78, 79, 80, 81] 81 (.bool t11) ?_ ?_
       ·refine bc (b := c3.Shown) (fun hg => ?_) (fun hg => ?_)
        ·replace hk := ct hg ht
         refine AB hg (pF E5 (AB hg ?_))
         refine CN hO 0 (.int _ _) BU (AB hg ?_)
         refine pF K6 (AB hg ?_)
         refine CN hO 1 (.int _ _) BU (AB hg (bk hk fun v12 hv12 hk => ?_))
         refine AR (fun _ => Ed hv12) ?_
         refine Cr hg (.bool _) ?_
         cases hk; exact pE ek
        ·replace hk := cf hg ht
         refine AE hg (AE hg (AE hg (AE hg (AE hg (Cq hg (.bool _) ?_)))))
         cases hk; exact pE ek
       ·intro J
        refine pA (.bool _) (pE (gn (Aw (gr ?_))))
        cases hk; exact AT hO
      ·refine Ar (gn (A1 (A4 (As E5 hO 0 (.int _ _) BU ?_))))
       refine AW ?_
       refine pM (.bool _) ?_
       refine AS (l1 := [_, _, _, _, _, _, _, _, _]) [86, 87, 88, 89, 90, 91, 92, 93, 94] 94 (.bool ((c3.Timer == (0:Int)) && ((c3.State != (0:Int)) || !c3.Shown))) ?_ ?_
       ·refine bc (b := (c3.Timer == (0:Int))) (fun hg => ?_) (fun hg => ?_)
        ·refine AB hg (pF B8 (AB hg ?_))
         refine CN hO 0 (.int _ _) BU (AB hg ?_)
         refine AW (AB hg ?_)
         refine pM (.bool _) ?_
         refine AS (l1 := [_, _, _, _]) [90, 91, 92, 93] 93 (.bool ((c3.State != (0:Int)) || !c3.Shown)) ?_ ?_
         ·refine bc (b := (c3.State != (0:Int))) (fun hg2 => ?_) (fun hg2 => ?_)
          ·refine AE hg2 (AE hg2 (AE hg2 (AB hg (Cr hg2 (.bool _) ?_))))
           exact pE (ek (by rw [hg2]; rfl))
          ·refine AB hg2 (pF Dm (AB hg2 ?_))
           refine CN hO 0 (.bool _) Fk (AB hg2 ?_)
           refine pU (AB hg ?_)
           refine Cq hg2 (.bool _) ?_
           exact pE (ek (by rw [hg2]; rfl))
         ·intro J
          refine Cr hg (.bool _) ?_
          exact pE (ek (by rw [hg]; rfl))
        ·refine AE hg (AE hg (AE hg (AE hg (CW (CW (CW (AE hg (Cq hg (.bool _) ?_))))))))
         exact pE (ek (by rw [hg]; rfl))
       ·intro J
        refine pM (.bool _) ?_
        refine AS (l1 := [_, _, _, _, _, _, _, _]) [96, 97, 98, 99, 100, 101, 102, 103] 103 (.bool (((c3.Timer == (0:Int)) && ((c3.State != (0:Int)) || !c3.Shown)) && ((c3.State != (2:Int)) || c3.Shown))) ?_ ?_
        ·refine bc (b := ((c3.Timer == (0:Int)) && ((c3.State != (0:Int)) || !c3.Shown))) (fun hg => ?_) (fun hg => ?_)
         ·refine AB hg (pF B8 (AB hg ?_))
          refine CN hO 0 (.int _ _) BU (AB hg ?_)
          refine AW (AB hg ?_)
          refine pM (.bool _) ?_
          refine AS (l1 := [_, _, _]) [100, 101, 102] 102 (.bool ((c3.State != (2:Int)) || c3.Shown)) ?_ ?_
          ·refine bc (b := (c3.State != (2:Int))) (fun hg2 => ?_) (fun hg2 => ?_)
           ·refine AE hg2 (AE hg2 (AB hg (Cr hg2 (.bool _) ?_)))
            exact pE (ek (by rw [hg2]; rfl))
           ·refine AB hg2 (pF Dm (AB hg2 ?_))
            refine CN hO 0 (.bool _) Fk (AB hg ?_)
            refine Cq hg2 (.bool _) ?_
            exact pE (ek (by rw [hg2]; rfl))
          ·intro J
           refine Cr hg (.bool _) ?_
           exact pE (ek (by rw [hg]; rfl))
         ·refine AE hg (AE hg (AE hg (AE hg (CW (CW (AE hg (Cq hg (.bool _) ?_)))))))
          exact pE (ek (by rw [hg]; rfl))
        ·intro J
         refine pA (.bool _) (pE (gn (Aw ?_)))
         cases hk; exact AT hO
def Nf (aF0 : AD) : ((List Bool) × (List Al) × (List AG) × Int) → Option (((List Bool) × (List Al) × (List AG) × Int) ⊕ AD) := fun s =>
 (bif decide (s.2.2.2 < (aF0.A7.length : Int)) then ((AK aF0.A7 s.2.2.2).bind fun c17 => ((DC 1 ([] : List Bool) c17.Aa).bind fun z20 => ((DC 56 s.2.2.1 [({ State := c17.State, Ab := c17.Ab, Aa := z20, Shown := c17.Shown, Timer := c17.Timer } : AG)]).bind fun z26 => some (.inl (s.1, s.2.1, z26, BT (s.2.2.2 + (1:Int))))))) else ((some ({ Ok := aF0.Ok, C5 := s.1, AF := s.2.1, A7 := s.2.2.1 } : AD)).map Sum.inr))
def cV (aF0 : AD) : Option AD :=
 ((DC 1 ([] : List Bool) aF0.C5).bind fun z4 => ((DC 16 ([] : List Al) aF0.AF).bind fun z7 => (AJ (Nf aF0) (z4, z7, ([] : List AG), (0:Int)))))
theorem ZG {aF0 : AD} {r : AD} {l1 l2 l3 m4 : Nat} (hk : cV aF0 = some r) (hlk : 0 < lk.length := by simp) : ∃ v H1, Am Tryz.prog hh 61 [.agg (Ah l1 0 l2 0 l3 m4 aF0)] H lk = some (v, H1) ∧ Hn H r v H1 := by
 refine B0 Tryz.func61 rfl Tryz.ntmps61 Tryz.results61 rfl rfl ?_
 have hO := A5.nil H
 unfold cV at hk
 refine A1 (A4 (BZ (cs := [_, _, _, _]) hO Bv (fun b1 G hO => CK hO Bv RM (fun b2 G hO => pE (gn (A1 (A4 ?_)))))))
 refine As Lt hO 1 (.bool _) Fk ?_
 refine R9 [_, _, _, _] RM m6 (CK hO Bv RM (fun b3 G hO => ?_))
 refine Cs (xs := [_, _, _, _]) hO 0 Bv rfl (fun G hO => pE (gn (A1 (A4 ?_))))
 refine As Cm hO 0 (.tl 0 []) C8 ?_
 refine As Cm hO 2 (.lit _ _ _) C8 ?_
 replace hO := A5.Gt hO lk.length ([] : List Bool)
 refine bk hk fun z4 hz4 hk => Si (xs := ([] : List Bool)) hO 0 hz4 (HS _ aF0.C5) Cl FO eF bK Cl rfl (fun o4 G hno4 hO => ?_)
 replace hno4 := hno4 Nz.nil
 refine pF Cm ?_
 have hc6 := C1 hO (j := 0) rfl
 refine Cs (xs := [_]) hO 1 GB rfl (fun G hO => ?_) (h3 := hc6.1) (h6 := Bg hc6.2)
 refine pE (gn (A1 (A4 (As Db hO 1 (.tl 0 []) JD ?_))))
 refine As Db hO 3 (.lit _ _ _) JD ?_
 replace hO := A5.Gt hO lk.length ([] : List Al)
 refine bk hk fun z7 hz7 hk => Si (xs := ([] : List Al)) hO 0 hz7 (HS _ aF0.AF) IY EA eG SV IY rfl (fun o7 G hno7 hO => ?_)
 replace hno7 := hno7 Nz.nil
 refine pF Db ?_
 have hc9 := C1 hO (j := 0) rfl
 refine Cs (xs := [_]) hO 2 eL rfl (fun G hO => ?_) (h3 := hc9.1) (h6 := Bg hc9.2)
 refine pE (gn (A1 (A1 (A4 (As Bd hO 4 (.lit _ _ _) Dv ?_)))))
 refine Af IJ ?_
 refine pM (.int _ _) (pE (gn (BO ?_)))
 refine AA (F := Nf aF0) (fun s S' => ∃ (o10 : V) (o12 : V) (o14 : V) (F15 : List Nat) (J : Nat → V) (G : A3), Nz o10 ∧ Nz o12 ∧ A5 H G [.own o10 lk.length 1 s.1.length (A8 0 s.1), .own o12 lk.length 2 s.2.1.length (A8 0 s.2.1), Ap H lk.length F15 s.2.2.1 o14, .Ad b3 (.cells 4 [.bool aF0.Ok, o10, o12, o14]), .Ad b2 (.cells 4 [.bool false, (.tl 0 []), (.tl 0 []), (.tl 0 [])])] ∧ S' = ⟨CM [(2, .ptr b2 0), (3, .ptr b3 0), (23, AN l3 m4 aF0.A7), (24, iv (aF0.A7.length : Int)), (25, iv s.2.2.2)] J, G⟩) hk ⟨o4, o7, (.tl 0 []), [], _, _, hno4, hno7, (A5.pick (A5.fQ hO AG lk.length) [2, 1, 0, 3, 4] (by decide) rfl), sh⟩ ?_
 rintro ⟨x10, x12, x14, x16⟩ _ y1 ⟨o10, o12, o14, F15, J, G, hno10, hno12, hO, rfl⟩ hk hx1
 refine A1 (A4 (AW (pE (gn (A1 (Aq hk (fun hk => ?_) (fun hk => ?_)))))))
 ·refine Ar (gn (A1 (BO (A1 (A4 (bk hk fun c17 hc17 hk => pX hc17 EJ Av ?_))))))
  refine Br (.agg [_, _, _, _, _]) (G8 (lm := m4) (off := 0) hc17 G0 Av) (CK hO Av FN (fun b18 G hO => ?_))
  refine Cs (xs := [_, _, _, _, _]) hO 0 Av rfl (fun G hO => pE (gn (A1 (A4 ?_))))
  refine E4 hO 0 [_, _, _, _, _] G0 Av (CK hO Av FN (fun b19 G hO => ?_))
  refine Cs (xs := [_, _, _, _, _]) hO 0 Av rfl (fun G hO => pE (gn (A1 (A4 ?_))))
  refine Tv (ps := []) ([] : List Bool) Cl FO bK (Dg) ?_
  refine As C3 hO 1 (.lit _ _ _) C8 ?_
  replace hO := A5.Gt hO lk.length ([] : List Bool)
  refine bk hk fun z20 hz20 hk => Si (xs := ([] : List Bool)) hO 0 hz20 (HS _ c17.Aa) Cl FO eF bK Cl rfl (fun o20 G hno20 hO => ?_)
  replace hno20 := hno20 Nz.nil
  refine pF C3 ?_
  have hc22 := C1 hO (j := 0) rfl
  refine Cs (xs := [_]) hO 1 GB rfl (fun G hO => ?_) (h3 := hc22.1) (h6 := Bg hc22.2)
  refine pE (gn (A4 (As Bd hO 6 o14 Dv ?_)))
  refine E4 hO 1 [_, _, _, _, _] G0 Av ?_
  have hc23 := C1 hO (j := 0) rfl
  refine lL (ce := [iv c17.State, iv c17.Ab, o20, .bool c17.Shown, iv c17.Timer]) EJ Av FN rfl rfl (Bj rfl (Bj rfl (Bj hc23.2 (Bj rfl (Bj rfl IM))))) ?_
  obtain ⟨F25, hO, _⟩ := A5.j8 hO hno20 hlk
  replace hO := (hO.treeMap (p' := fun G => DK H.length lk.length (Ao.dep AG) (fun G => Ao.tr G (({ State := c17.State, Ab := c17.Ab, Aa := z20, Shown := c17.Shown, Timer := c17.Timer } : AG) : AG)) G [iv c17.State, iv c17.Ab, o20, .bool c17.Shown, iv c17.Timer] F25) fun G h => (DK.MG (c17.State : Int) rfl (DK.MG (c17.Ab : Int) rfl (DK.SG (c17.Shown, c17.Timer) rfl (DK.up (m := Ao.dep AG) rfl h)))))
  have hce24 : ([iv c17.State, iv c17.Ab, o20, .bool c17.Shown, iv c17.Timer] : List V).length = AL.sz AG ∧ ([iv c17.State, iv c17.Ab, o20, .bool c17.Shown, iv c17.Timer] : List V).all V.Bb = true := ⟨rfl, (Bj rfl (Bj rfl (Bj hc23.2 (Bj rfl (Bj rfl IM)))))⟩
  refine bk hk fun z26 hz26 hk => lK hO 4 hz26 hce24.1 hce24.2 EJ Av Y9 FN EJ rfl (fun o26 F27 G hO => ?_)
  refine pF Bd ?_
  have hc28 := RS hO (j := 4) rfl
  refine Cs (xs := [_]) hO 5 eM rfl (fun G hO => ?_) (h3 := hc28.1) (h6 := Bg hc28.2)
  refine pE (bn (gn (A4 (AW ?_))))
  refine pM (.int _ _) (pE (gn ?_))
  cases hk; exact ⟨_, rfl, o10, o12, o26, F27, _, _, hno10, hno12, (pk hO [2, 3, 4, 5, 6]), sh⟩
 ·refine D3 (ge (ge (be (gn (have hk := lx hx1 hk; A1 (A4 (E4 hO 3 [_, _, _, _] Ep Bv ?_)))))))
  have hc29 := C1 hO (j := 0) rfl
  have hc30 := C1 hO (j := 1) rfl
  have hc31 := RS hO (j := 2) rfl
  refine Cs (xs := [_, _, _, _]) hO 4 Bv rfl (fun G hO => ?_) (h6 := (Bj rfl (Bj hc29.2 (Bj hc30.2 (Bj hc31.2 IM)))))
  refine pE (gn (Aw ?_))
  replace hk := Option.some.inj hk; subst hk; exact Jx hO (Oq (x := ({ Ok := aF0.Ok, C5 := x10, AF := x12, A7 := x14 } : AD)) (CD (c1 := [_]) (Kz aF0.Ok) (CD (c1 := [_]) (UG (xs := x10) hno10 hlk 0) (CD (c1 := [_]) (UG (xs := x12) hno12 hlk 0) (jU (xs := x14) hlk 0))))) (G9 hO 4 [_, _, _, _] Ep Bv Dl)
def Nt (aF1 : AD) (x5 : Int) (c6 : List Ae) : Int → Option (Int ⊕ (Int ⊕ Bool)) := fun s =>
 (bif decide (s < (c6.length : Int)) then ((AK c6 s).bind fun c8 => ((AK aF1.AF c8.Switch).bind fun c10 => ((bif (c10.Want != c8.FC) then some true else ((AK aF1.AF c8.Switch).bind fun c12 => some (c12.AQ != c8.FC))).bind fun t11 => (bif t11 then (((some false).map Sum.inr).map Sum.inr) else some (.inl (BT (s + (1:Int)))))))) else ((some (.inl (BT (x5 + (1:Int))))).map Sum.inr))
def Nu (aF1 : AD) (x13 : Int) (c14 : List Int) : Int → Option (Int ⊕ (Int ⊕ Bool)) := fun s =>
 (bif decide (s < (c14.length : Int)) then ((AK c14 s).bind fun c16 => ((AK aF1.C5 c16).bind fun c17 => (bif c17 then (((some false).map Sum.inr).map Sum.inr) else some (.inl (BT (s + (1:Int))))))) else ((some (.inl (BT (x13 + (1:Int))))).map Sum.inr))
def LO (aF1 : AD) (c3 : Bq) : Int → Option (Int ⊕ Bool) := fun s =>
 (bif decide (s < (([c3.A0, c3.Bt] : List (List Int)).length : Int)) then ((AK ([c3.A0, c3.Bt] : List (List Int)) s).bind fun c14 => (AJ (Nu aF1 s c14) ((0:Int)))) else ((some true).map Sum.inr))
def Ns (aF1 : AD) (c3 : Bq) : Int → Option (Int ⊕ Bool) := fun s =>
 (bif decide (s < (([c3.AQ, c3.AH] : List (List Ae)).length : Int)) then ((AK ([c3.AQ, c3.AH] : List (List Ae)) s).bind fun c6 => (AJ (Nt aF1 s c6) ((0:Int)))) else ((AJ (LO aF1 c3) ((0:Int))).map Sum.inr))
def iE (aP0 : AP) (aF1 : AD) (aI2 : Int) : Option Bool :=
 ((AK aP0.A7 aI2).bind fun c3 => (AJ (Ns aF1 c3) ((0:Int))))
theorem Za {aP0 : AP} {aF1 : AD} {aI2 : Int} {r : Bool} {l1 l2 m3 l4 m5 l6 l7 l8 m9 : Nat} (hk : iE aP0 aF1 aI2 = some r) (hlk : 0 < lk.length := by simp) : Am Tryz.prog hh 93 [.agg (Ai l1 0 l2 m3 l4 m5 aP0), .agg (Ah l6 0 l7 0 l8 m9 aF1), iv aI2] H lk = some (.bool r, H) := by
 refine AI Tryz.func93 rfl Tryz.ntmps93 Tryz.results93 rfl rfl fun hO => ?_
 unfold iE at hk
 refine A1 (A4 (BZ (cs := [_, _, _, _, _]) hO CC (fun b1 G hO => ?_)))
 refine BZ (cs := [_, _, _, _]) hO Bv (fun b2 G hO => ?_)
 refine pA (.bool _) (pE (gn (A1 (A4 ?_))))
 refine As Bl hO 1 (.lit _ _ _) Du ?_
 refine pM (.int _ _) (bk hk fun c3 hc3 hk => ?_)
 refine pX hc3 Er Az ?_
 refine Br (.agg [_, _, _, _, _]) (G8 (lm := m3) (off := 0) hc3 Ew Az) (CK hO Az IU (fun b4 G hO => ?_))
 refine Cs (xs := [_, _, _, _, _]) hO 0 Az rfl (fun G hO => pE (gn (A1 (A1 (A4 ?_)))))
 refine As E6 hO 0 (.lit _ _ _) Da ?_
 refine As EU hO 0 (.lit _ _ _) Da ?_
 refine dX (ps := [(0, (.lit _ _ _)), (1, (.lit _ _ _))]) m3 ([c3.AQ, c3.AH] : List (List Ae)) Uw Pz bJ ?_
 refine Af bS ?_
 refine pM (.int _ _) (pE (gn (BO ?_)))
 refine AA (F := Ns aF1 c3) (fun s S' => ∃ (J : Nat → V) (G : A3), A5 H G [.Ad b4 (.cells 5 (Cn m3 0 m3 0 m3 0 m3 0 m3 0 c3)), .Ad b2 (.cells 4 (Ah l6 0 l7 0 l8 m9 aF1))] ∧ S' = ⟨CM [(4, .ptr b2 0), (7, .ptr b4 0), (25, (.tl 2 (A8 m3 ([c3.AQ, c3.AH] : List (List Ae))))), (26, iv (([c3.AQ, c3.AH] : List (List Ae)).length : Int)), (27, iv s)] J, G⟩) hk ⟨_, _, (pk hO [0, 1]), sh⟩ ?_
 rintro x5 _ y1 ⟨J, G, hO, rfl⟩ hk hx1
 refine A1 (A4 (AW (pE (gn (A1 (Aq hk (fun hk => ?_) (fun hk => ?_)))))))
 ·refine Ar (gn (A1 (BO (A1 (A4 (bk hk fun c6 hc6 hk => e8 (lm := m3) hc6 Uw Pz ?_))))))
  refine Br (.lit _ _ _) (D4 (lm := m3) (off := 0) hc6 Da) ?_
  refine pA (.lit _ _ _) (pE (gn (A1 (A4 ?_))))
  refine pM (.lit _ _ _) ?_
  refine Af Ex ?_
  refine pM (.int _ _) (pE (gn (BO ?_)))
  refine AA (F := Nt aF1 x5 c6) (fun s S' => ∃ (J : Nat → V) (G : A3), A5 H G [.Ad b4 (.cells 5 (Cn m3 0 m3 0 m3 0 m3 0 m3 0 c3)), .Ad b2 (.cells 4 (Ah l6 0 l7 0 l8 m9 aF1))] ∧ S' = ⟨CM [(4, .ptr b2 0), (7, .ptr b4 0), (25, (.tl 2 (A8 m3 ([c3.AQ, c3.AH] : List (List Ae))))), (26, iv (([c3.AQ, c3.AH] : List (List Ae)).length : Int)), (27, iv x5), (31, AN m3 0 c6), (32, iv (c6.length : Int)), (33, iv s)] J, G⟩) hk ⟨_, _, hO, sh⟩ ?_
  rintro x7 _ y2 ⟨J, G, hO, rfl⟩ hk hx2
  refine A1 (A4 (AW (pE (gn (A1 (Aq hk (fun hk => ?_) (fun hk => ?_)))))))
  ·refine Ar (gn (A1 (BO (A1 (A4 (bk hk fun c8 hc8 hk => pX hc8 Df BB ?_))))))
   refine Br (.agg [_, _]) (G8 (lm := 0) (off := 0) hc8 G3 BB) (CK hO BB FT (fun b9 G hO => ?_))
   refine Cs (xs := [_, _]) hO 0 BB rfl (fun G hO => pE (gn (A1 ?_)))
   refine BC [(0, true), (1, true), (2, true), (3, true), (4, true), (5, true), (6, true), (7, true), (8, true), (9, false), (10, false), (11, true), (12, true), (13, true), (14, true), (15, true), (16, true), (17, true), (18, true), (19, true), (20, false), (21, false)] [_, _, _, _, _, _, _, _, _, _, _, _, _, _, _, _, _, _, _, _, _, _] (by decide +kernel) (by rfl) ?_
   refine As Db hO 2 (.lit _ _ _) JD ?_
   refine As CP hO 0 (.int _ _) BU (bk hk fun c10 hc10 hk => ?_)
   refine pX hc10 IY EA ?_
   refine pF II ?_
   refine Br (.int _ _) (D4 (lm := 0) (off := 0) hc10 BU) ?_
   refine As E7 hO 0 (.int _ _) BU ?_
   refine AW ?_
   refine pM (.bool _) (bk hk fun t11 ht hk => ?_)
   refine AS (l1 := [_, _, _, _, _, _, _, _, _, _, _]) [48, 49, 50, 51, 52, 53, 54, 55, 56, 57, 58] 58 (.bool t11) ?_ ?_
   ·refine bc (b := (c10.Want != c8.FC)) (fun hg => ?_) (fun hg => ?_)
    ·replace hk := ct hg ht
     refine AE hg (AE hg (AE hg (AE hg (AE hg (AE hg (AE hg (AE hg (AE hg (AE hg (Cr hg (.bool _) ?_))))))))))
     cases hk; exact pE ek
    ·replace hk := cf hg ht
     refine AB hg (pF Db (AB hg ?_))
     refine CN hO 2 (.lit _ _ _) JD (AB hg ?_)
     refine pF CP (AB hg ?_)
     refine CN hO 0 (.int _ _) BU (AB hg (bk hk fun c12 hc12 hk => ?_))
     refine pX hc12 IY EA (AB hg ?_)
     refine pF K7 (AB hg ?_)
     refine Br (.int _ _) (D4 (lm := 0) (off := 1) hc12 BU) (AB hg ?_)
     refine pF E7 (AB hg ?_)
     refine CN hO 0 (.int _ _) BU (AB hg ?_)
     refine AW ?_
     refine Cq hg (.bool _) ?_
     cases hk; exact pE ek
   ·intro J
    refine pE (gn (Aq hk (fun hk => ?_) (fun hk => ?_)))
    ·refine A1 (A4 (pA (.bool _) (pE (gn (Aw (br (gr (gr (br (br (gr (gr (br (gr (have hk := lx hx2 hk; have hk := lx hx1 hk; ?_)))))))))))))))
     cases hk; exact AT hO
    ·refine Ar (bn (gn (A4 (AW ?_))))
     refine pM (.int _ _) (pE (gn ?_))
     cases hk; exact ⟨_, rfl, _, _, (pk hO [1, 2]), sh⟩
  ·refine D3 (ge (ge (be (bn (gn (have hk := lx hx2 hk; A4 (AW ?_)))))))
   refine pM (.int _ _) (pE (gn ?_))
   cases hk; exact ⟨_, rfl, _, _, hO, sh⟩
 ·refine D3 (ge (ge (be (gn (have hk := lx hx1 hk; A1 (A1 (A4 (As BI hO 0 (.lit _ _ _) BK ?_))))))))
  refine As DU hO 0 (.lit _ _ _) BK ?_
  refine dX (ps := [(0, (.lit _ _ _)), (1, (.lit _ _ _))]) m3 ([c3.A0, c3.Bt] : List (List Int)) bP Kx lW ?_
  refine Af jS ?_
  refine pM (.int _ _) (pE (gn (BO ?_)))
  refine AA (F := LO aF1 c3) (fun s S' => ∃ (J : Nat → V) (G : A3), A5 H G [.Ad b2 (.cells 4 (Ah l6 0 l7 0 l8 m9 aF1))] ∧ S' = ⟨CM [(4, .ptr b2 0), (65, (.tl 2 (A8 m3 ([c3.A0, c3.Bt] : List (List Int))))), (66, iv (([c3.A0, c3.Bt] : List (List Int)).length : Int)), (67, iv s)] J, G⟩) hk ⟨_, _, (pk hO [1]), sh⟩ ?_
  rintro x13 _ y1 ⟨J, G, hO, rfl⟩ hk hx1
  refine A1 (A4 (AW (pE (gn (A1 (Aq hk (fun hk => ?_) (fun hk => ?_)))))))
  ·refine Ar (gn (A1 (BO (A1 (A4 (bk hk fun c14 hc14 hk => e8 (lm := m3) hc14 bP Kx ?_))))))
   refine Br (.lit _ _ _) (D4 (lm := m3) (off := 0) hc14 BK) ?_
   refine pA (.lit _ _ _) (pE (gn (A1 (A4 ?_))))
   refine pM (.lit _ _ _) ?_
   refine Af D5 ?_
   refine pM (.int _ _) (pE (gn (BO ?_)))
   refine AA (F := Nu aF1 x13 c14) (fun s S' => ∃ (J : Nat → V) (G : A3), A5 H G [.Ad b2 (.cells 4 (Ah l6 0 l7 0 l8 m9 aF1))] ∧ S' = ⟨CM [(4, .ptr b2 0), (65, (.tl 2 (A8 m3 ([c3.A0, c3.Bt] : List (List Int))))), (66, iv (([c3.A0, c3.Bt] : List (List Int)).length : Int)), (67, iv x13), (71, AN m3 0 c14), (72, iv (c14.length : Int)), (73, iv s)] J, G⟩) hk ⟨_, _, hO, sh⟩ ?_
   rintro x15 _ y2 ⟨J, G, hO, rfl⟩ hk hx2
   refine A1 (A4 (AW (pE (gn (A1 (Aq hk (fun hk => ?_) (fun hk => ?_)))))))
   ·refine Ar (gn (A1 (BO (A1 (A4 (bk hk fun c16 hc16 hk => pX hc16 C4 DP ?_))))))
    refine Br (.int _ _) (D4 (lm := 0) (off := 0) hc16 BU) ?_
    refine pA (.int _ _) (pE (gn (A1 (A4 ?_))))
    refine As Cm hO 0 (.lit _ _ _) C8 ?_
    refine pM (.int _ _) (bk hk fun c17 hc17 hk => ?_)
    refine pX hc17 Cl FO ?_
    refine Br (.bool _) (D4 (lm := 0) (off := 0) hc17 Fk) (pE (gn (Aq hk (fun hk => ?_) (fun hk => ?_))))
    ·refine A1 (A4 (pA (.bool _) (pE (gn (Aw (br (gr (gr (br (br (gr (gr (br (gr (have hk := lx hx2 hk; have hk := lx hx1 hk; ?_)))))))))))))))
     cases hk; exact AT hO
    ·refine Ar (bn (gn (A4 (AW ?_))))
     refine pM (.int _ _) (pE (gn ?_))
     cases hk; exact ⟨_, rfl, _, _, hO, sh⟩
   ·refine D3 (ge (ge (be (bn (gn (have hk := lx hx2 hk; A4 (AW ?_)))))))
    refine pM (.int _ _) (pE (gn ?_))
    cases hk; exact ⟨_, rfl, _, _, hO, sh⟩
  ·refine D3 (ge (ge (be (gn (have hk := lx hx1 hk; A1 (A4 (pA (.bool _) (pE (gn (Aw ?_))))))))))
   cases hk; exact AT hO
def k7 (aH0 : List AG) (aH0i : Int) : Option (List AG) :=
 (AK aH0 aH0i).bind fun c1 => ((GF 1 (c1.Aa.length : Int)).bind fun m3 => some (aH0.set aH0i.toNat ({ State := 0, Ab := 0, Aa := List.replicate m3 (false : Bool), Shown := false, Timer := 0 } : AG)))
theorem ZH {aH0 : List AG} {aH0i : Int} {r : (List AG)} {b0 : Nat} {vp1 : V} {S0 Fp1 : List Nat} (hk : k7 aH0 aH0i = some r) (hv0 : vp1 = .sl b0 0 aH0.length) (hO : A5 H H [AY S0 Fp1 aH0 [vp1]]) (hS : ∀ b ∈ S0, AV lk b = true) (hlt : ∀ b ∈ S0, b < H.length) (hlo : E9 lk H.length) (hlk : 0 < lk.length := by simp) : ∃ v H1, Am Tryz.prog hh 65 [.ptr b0 (aH0i.toNat * 5)] H lk = some (v, H1) ∧ v = .Fl [] ∧ ∃ (Fs : List Nat) (Hm : A3), Bu H Hm (S0) ∧ A5 Hm H1 [AY S0 Fs r [vp1]] := by
 refine B0 Tryz.func65 rfl Tryz.ntmps65 Tryz.results65 rfl rfl ?_
 have hFr := Bu.refl H (S0)
 unfold k7 at hk
 refine bk hk fun c1 hc1 hk => A1 (A4 (pM (.ptr _ _) ?_))
 refine Ch ?_
 refine pF C3 ?_
 refine Tw Cb hO 0 hv0 hc1 C8 (fun u2 fs2 hs2 => ?_)
 refine iX hs2 HO ?_
 refine pA (.int _ _) (pE (gn (A4 ?_)))
 refine pM (.ptr _ _) ?_
 refine pM (.int _ _) (bk hk fun m3 hm3 hk => ?_)
 refine fG hO hm3 (false : Bool) Cl FO eF bK (fun b4 G hO => ?_)
 refine R9 [_, _, _, _, _] FN bR ?_
 refine Ch ?_
 replace hO := A5.jV hO List.length_replicate
 replace hO := (hO.treeMap (p' := fun G => CH G (({ State := 0, Ab := 0, Aa := List.replicate m3 (false : Bool), Shown := false, Timer := 0 } : AG) : AG) [iv 0, iv 0, .sl b4 0 m3, .bool false, iv 0] [b4]) fun G h => (CH.MG (0 : Int) (CH.MG (0 : Int) (CH.SG (false, 0) h))))
 refine bH hO 0 hv0 hc1 Av hFr hS rfl (fun H1 G hFr hO => pE ?_)
 replace hk := Option.some.inj hk; subst hk; exact XF ((Fp1 ++ [b4])) hO hFr (J9 Lm Xy) rfl rfl rfl rfl (by first | exact Or.inl rfl | exact Or.inr rfl)
def Qe (x6 : Int) (x7 : List AG) (c8 : AG) : Option (((List AG) × AG × Int) ⊕ AD) :=
 some (.inl (x7, c8, BT (x6 + (1:Int))))
def Jt (aW0 : Bq) (aF1 : AD) (aH2i : Int) : ((List AG) × AG) → Option (((List AG) × AG) ⊕ AD) := fun s =>
 (bif decide (s.2.Ab < (aW0.A0.length : Int)) then ((AK s.2.Aa s.2.Ab).bind fun c21 => ((bif !c21 then some true else ((AK aW0.A0 s.2.Ab).bind fun c24 => ((AK aF1.C5 c24).bind fun c25 => some c25))).bind fun t23 => ((bif t23 then some true else ((bif decide (s.2.Ab < (BT ((aW0.A0.length : Int) - (1:Int)))) then ((AK s.2.Aa (BT (s.2.Ab + (1:Int)))).bind fun c30 => some (!c30)) else some false).bind fun t28 => some t28)).bind fun t27 => (bif t27 then ((some ({ Ok := aF1.Ok, C5 := aF1.C5, AF := aF1.AF, A7 := s.1 } : AD)).map Sum.inr) else some (.inl (s.1.set aH2i.toNat ({ s.2 with Ab := BT (s.2.Ab + (1:Int)) }), ({ s.2 with Ab := BT (s.2.Ab + (1:Int)) } : AG))))))) else (((k7 s.1 aH2i).bind fun z33 => some ({ Ok := aF1.Ok, C5 := aF1.C5, AF := aF1.AF, A7 := z33 } : AD)).map Sum.inr))
def Nv (aW0 : Bq) (aF1 : AD) (aH2i : Int) : ((List AG) × AG × Int) → Option (((List AG) × AG × Int) ⊕ AD) := fun s =>
 (bif decide (s.2.2 < (aW0.A0.length : Int)) then ((AK aW0.A0 s.2.2).bind fun c10 => ((AK aF1.C5 c10).bind fun c11 => (bif c11 then ((AK s.2.1.Aa s.2.2).bind fun c14 => (Qe s.2.2 (s.1.set aH2i.toNat ({ s.2.1 with Aa := s.2.1.Aa.set s.2.2.toNat true })) ({ s.2.1 with Aa := s.2.1.Aa.set s.2.2.toNat true } : AG))) else (Qe s.2.2 s.1 s.2.1)))) else ((AJ (Jt aW0 aF1 aH2i) (s.1, s.2.1)).map Sum.inr))
def iF (aW0 : Bq) (aF1 : AD) (aH2i : Int) : Option AD :=
 (AK aF1.A7 aH2i).bind fun c1 => (AJ (Nv aW0 aF1 aH2i) (aF1.A7, c1, (0:Int)))
theorem Zb {aW0 : Bq} {aF1 : AD} {aH2i : Int} {r : AD} {l1 l2 l3 l4 l5 : Nat} {q0 b0 : Nat} {vp1 vp2 vp3 : V} {S0 Fp1 Fp2 Fp3 : List Nat} (hk : iF aW0 aF1 aH2i = some r) (hv0 : vp3 = .sl b0 0 aF1.A7.length) (hO : A5 H H [.DA S0 q0 (.cells 4 [.bool aF1.Ok, vp1, vp2, vp3]), AY S0 Fp1 aF1.C5 [vp1], AY S0 Fp2 aF1.AF [vp2], AY S0 Fp3 aF1.A7 [vp3]]) (hS : ∀ b ∈ S0, AV lk b = true) (hlt : ∀ b ∈ S0, b < H.length) (hlo : E9 lk H.length) (hlk : 0 < lk.length := by simp) : ∃ v H1, Am Tryz.prog hh 94 [.agg (Cn l1 0 l2 0 l3 0 l4 0 l5 0 aW0), .ptr q0 0, .ptr b0 (aH2i.toNat * 5)] H lk = some (v, H1) ∧ v = .Fl [] ∧ ∃ (Fs : List Nat × List Nat × List Nat) (Hm : A3), Bu H Hm (S0) ∧ A5 Hm H1 [.DA S0 q0 (.cells 4 [.bool r.Ok, vp1, vp2, vp3]), AY S0 Fs.1 r.C5 [vp1], AY S0 Fs.2.1 r.AF [vp2], AY S0 Fs.2.2 r.A7 [vp3]] := by
 refine B0 Tryz.func94 rfl Tryz.ntmps94 Tryz.results94 rfl rfl ?_
 have hFr := Bu.refl H (S0)
 unfold iF at hk
 have hq := (List.getElem?_eq_some_iff.1 (hO.XM (k := 0) rfl).1).1
 refine bk hk fun c1 hc1 hk => A1 (A4 (BZ (cs := [_, _, _, _, _]) hO Az (fun b2 G hO => pE (gn (A1 (A4 ?_))))))
 refine As BI hO 0 (.lit _ _ _) BK ?_
 refine Af D5 ?_
 refine pA (.int _ _) (pE (gn (A1 (A1 (A4 ?_)))))
 refine As BI hO 0 (.lit _ _ _) BK ?_
 refine Af D5 ?_
 refine pM (.int _ _) (pE (gn (BO ?_)))
 refine AA (F := Nv aW0 aF1 aH2i) (fun s S' => ∃ (J : Nat → V) (G : A3) (H1 : A3), AK s.1 aH2i = some s.2.1 ∧ vp3 = .sl b0 0 s.1.length ∧ Bu H H1 S0 ∧ A5 H1 G [.Ad b2 (.cells 5 (Cn l1 0 l2 0 l3 0 l4 0 l5 0 aW0)), .DA S0 q0 (.cells 4 [.bool aF1.Ok, vp1, vp2, vp3]), AY S0 Fp1 aF1.C5 [vp1], AY S0 Fp2 aF1.AF [vp2], AY S0 Fp3 s.1 [vp3]] ∧ S' = ⟨CM [(1, .ptr q0 0), (2, .ptr b0 (aH2i.toNat * 5)), (3, .ptr b2 0), (6, iv (aW0.A0.length : Int)), (14, AN l1 0 aW0.A0), (15, iv (aW0.A0.length : Int)), (16, iv s.2.2)] J, G⟩) hk ⟨_, _, _, hc1, hv0, hFr, hO, sh⟩ ?_
 rintro ⟨x3, c4, x6⟩ _ y1 ⟨J, G, H1, hc4, hv5, hFr, hO, rfl⟩ hk hx1
 refine A1 (A4 (AW (pE (gn (A1 (Aq hk (fun hk => ?_) (fun hk => ?_)))))))
 ·refine Ar (gn (CQ (fun S' => ∃ (x7 : List AG) (c8 : AG) (J : Nat → V) (G : A3) (H1 : A3), Qe x6 x7 c8 = some y1 ∧ AK x7 aH2i = some c8 ∧ vp3 = .sl b0 0 x7.length ∧ Bu H H1 S0 ∧ A5 H1 G [.Ad b2 (.cells 5 (Cn l1 0 l2 0 l3 0 l4 0 l5 0 aW0)), .DA S0 q0 (.cells 4 [.bool aF1.Ok, vp1, vp2, vp3]), AY S0 Fp1 aF1.C5 [vp1], AY S0 Fp2 aF1.AF [vp2], AY S0 Fp3 x7 [vp3]] ∧ S' = ⟨CM [(1, .ptr q0 0), (2, .ptr b0 (aH2i.toNat * 5)), (3, .ptr b2 0), (6, iv (aW0.A0.length : Int)), (14, AN l1 0 aW0.A0), (15, iv (aW0.A0.length : Int)), (16, iv x6)] J, G⟩) ?_ ?_))
  ·refine BO (A1 (A4 (pM (.int _ _) (bk hk fun c10 hc10 hk => ?_))))
   refine pX hc10 C4 DP ?_
   refine Br (.int _ _) (D4 (lm := 0) (off := 0) hc10 BU) ?_
   refine pA (.int _ _) ?_
   refine pA (.int _ _) (pE (gn (A1 (A4 ?_))))
   refine pM (.ptr _ _) ?_
   refine Ch ?_
   refine pF Cm ?_
   refine Yc hO 1 vp1 C8 ?_
   refine pM (.int _ _) (bk hk fun c11 hc11 hk => ?_)
   refine L7 hO 2 hc11 Cl FO (fun b12 hb12 => ?_)
   refine GM (Bm.all (α := Bool)) (.bool _) hO 2 hb12 hc11 Fk (pE (gn (Aq hk (fun hk => ?_) (fun hk => ?_))))
   ·refine A4 (pM (.ptr _ _) ?_)
    refine Ch ?_
    refine pF C3 ?_
    refine Tw Cb hO 4 hv5 hc4 C8 (fun u13 fs13 hs13 => ?_)
    refine pM (.int _ _) (bk hk fun c14 hc14 hk => ?_)
    refine e7 hs13 hc14 Cl FO (fun b15 hb15 => ?_)
    refine iZ (y' := true) hO 4 hs13 hb15 hc14 FO (fun _ => ⟨rfl, rfl⟩) hFr hS rfl (fun H1 G hFr hO => ?_)
    replace hO : A5 H1 G [.Ad b2 (.cells 5 (Cn l1 0 l2 0 l3 0 l4 0 l5 0 aW0)), .DA S0 q0 (.cells 4 [.bool aF1.Ok, vp1, vp2, vp3]), AY S0 Fp1 aF1.C5 [vp1], AY S0 Fp2 aF1.AF [vp2], AY S0 Fp3 (x3.set aH2i.toNat ({ c4 with Aa := c4.Aa.set x6.toNat true })) [vp3]] := hO
    have hc_16 := Bp hc4 ({ c4 with Aa := c4.Aa.set x6.toNat true } : AG)
    have hv_16 := Cu (j := aH2i.toNat) (y := ({ c4 with Aa := c4.Aa.set x6.toNat true } : AG)) hv5
    exact pE (bn (gn (⟨x3.set aH2i.toNat ({ c4 with Aa := c4.Aa.set x6.toNat true }), ({ c4 with Aa := c4.Aa.set x6.toNat true } : AG), _, _, _, hk, hc_16, hv_16, hFr, hO, sh⟩)))
   ·exact Ar (bn (gn (⟨x3, c4, _, _, _, hk, hc4, hv5, hFr, hO, sh⟩)))
  ·rintro _ ⟨x7, c8, J, G, H1, hk, hc8, hv9, hFr, hO, rfl⟩
   refine A4 (AW ?_)
   refine pM (.int _ _) (pE (gn ?_))
   cases hk; exact ⟨_, rfl, _, _, _, hc8, hv9, hFr, hO, sh⟩
 ·refine D3 (ge (ge (be (gn (have hk := lx hx1 hk; A1 (BO (AA (F := Jt aW0 aF1 aH2i) (fun s S' => ∃ (J : Nat → V) (G : A3) (H1 : A3), AK s.1 aH2i = some s.2 ∧ vp3 = .sl b0 0 s.1.length ∧ Bu H H1 S0 ∧ A5 H1 G [.Ad b2 (.cells 5 (Cn l1 0 l2 0 l3 0 l4 0 l5 0 aW0)), .DA S0 q0 (.cells 4 [.bool aF1.Ok, vp1, vp2, vp3]), AY S0 Fp1 aF1.C5 [vp1], AY S0 Fp2 aF1.AF [vp2], AY S0 Fp3 s.1 [vp3]] ∧ S' = ⟨CM [(1, .ptr q0 0), (2, .ptr b0 (aH2i.toNat * 5)), (3, .ptr b2 0), (6, iv (aW0.A0.length : Int))] J, G⟩) hk ⟨_, _, _, hc4, hv5, hFr, hO, sh⟩ ?_)))))))
  rintro ⟨x17, c18⟩ _ y1 ⟨J, G, H1, hc18, hv19, hFr, hO, rfl⟩ hk hx1
  refine A1 (A1 (A4 (pM (.ptr _ _) ?_)))
  refine Ch ?_
  refine pF Bw ?_
  refine GM Bn (.int _ _) hO 4 hv19 hc18 BU ?_
  refine pM (.int _ _) ?_
  refine AW (pE (gn (Aq hk (fun hk => ?_) (fun hk => ?_))))
  ·refine Ar (gn (BO (A1 (A4 (pM (.ptr _ _) ?_)))))
   refine Ch ?_
   refine pF Bw ?_
   refine GM Bn (.int _ _) hO 4 hv19 hc18 BU ?_
   refine pA (.int _ _) (pE (gn (A1 (A1 ?_))))
   refine BC [(0, false), (1, false), (2, false), (3, true), (4, true), (5, false), (6, true), (7, false), (8, false), (9, true), (10, true), (11, true), (12, true), (13, true), (14, true), (15, true), (16, true), (17, true), (18, false), (19, true), (20, false), (21, false), (22, false), (23, false), (24, false), (25, false), (26, false), (27, false), (28, false), (29, false), (30, true), (31, true), (32, true), (33, false), (34, true), (35, false), (36, false), (37, false)] [_, _, _, _, _, _, _, _, _, _, _, _, _, _, _, _, _, _, _, _, _, _, _, _, _, _, _, _, _, _, _, _, _, _, _, _, _, _] (by decide +kernel) (by rfl) ?_
   refine pM (.ptr _ _) ?_
   refine Ch ?_
   refine pF C3 ?_
   refine Tw Cb hO 4 hv19 hc18 C8 (fun u20 fs20 hs20 => ?_)
   refine pM (.int _ _) (bk hk fun c21 hc21 hk => ?_)
   refine e7 hs20 hc21 Cl FO (fun b22 hb22 => ?_)
   refine Xt (.bool _) hs20 hb22 hc21 Fk ?_
   refine pU ?_
   refine pM (.bool _) (bk hk fun t23 ht hk => ?_)
   refine AS (l1 := [_, _, _, _, _, _, _, _, _, _, _, _]) [54, 55, 56, 57, 58, 59, 60, 61, 62, 63, 64, 65] 65 (.bool t23) ?_ ?_
   ·refine bc (b := !c21) (fun hg => ?_) (fun hg => ?_)
    ·replace hk := ct hg ht
     refine AE hg (AE hg (AE hg (AE hg (AE hg (AE hg (AE hg (AE hg (AE hg (AE hg (AE hg (Cr hg (.bool _) ?_)))))))))))
     cases hk; exact pE ek
    ·replace hk := cf hg ht
     refine AB hg (pM (.ptr _ _) (AB hg ?_))
     refine Ch (AB hg ?_)
     refine pF Cm (AB hg ?_)
     refine Yc hO 1 vp1 C8 (AB hg ?_)
     refine pF BI (AB hg ?_)
     refine CN hO 0 (.lit _ _ _) BK (AB hg ?_)
     refine pM (.int _ _) (AB hg (bk hk fun c24 hc24 hk => ?_))
     refine pX hc24 C4 DP (AB hg ?_)
     refine Br (.int _ _) (D4 (lm := 0) (off := 0) hc24 BU) (AB hg (bk hk fun c25 hc25 hk => ?_))
     refine L7 hO 2 hc25 Cl FO (fun b26 hb26 => AB hg ?_)
     refine GM (Bm.all (α := Bool)) (.bool _) hO 2 hb26 hc25 Fk ?_
     refine Cq hg (.bool _) ?_
     cases hk; exact pE ek
   ·intro J
    refine pM (.bool _) (bk hk fun t27 ht hk => ?_)
    refine AS (l1 := [_, _, _, _, _, _, _, _, _, _, _, _, _, _, _, _]) [67, 68, 69, 70, 71, 72, 73, 74, 75, 76, 77, 78, 79, 80, 81, 82] 82 (.bool t27) ?_ ?_
    ·refine bc (b := t23) (fun hg => ?_) (fun hg => ?_)
     ·replace hk := ct hg ht
      refine AE hg (AE hg (AE hg (AE hg (AE hg (CW (CW (CW (CW (CW (CW (CW (CW (CW (AE hg (Cr hg (.bool _) ?_)))))))))))))))
      cases hk; exact pE ek
     ·replace hk := cf hg ht
      refine AB hg (pM (.int _ _) (AB hg ?_))
      refine pM (.int _ _) (AB hg ?_)
      refine AW (AB hg ?_)
      refine AW (AB hg ?_)
      refine pM (.bool _) (bk hk fun t28 ht hk => ?_)
      refine AS (l1 := [_, _, _, _, _, _, _, _, _, _]) [72, 73, 74, 75, 76, 77, 78, 79, 80, 81] 81 (.bool t28) ?_ ?_
      ·refine bc (b := decide (c18.Ab < (BT ((aW0.A0.length : Int) - (1:Int))))) (fun hg2 => ?_) (fun hg2 => ?_)
       ·replace hk := ct hg2 ht
        refine AB hg2 (pM (.ptr _ _) (AB hg2 ?_))
        refine Ch (AB hg2 ?_)
        refine pF C3 (AB hg2 ?_)
        refine Tw Cb hO 4 hv19 hc18 C8 (fun u29 fs29 hs29 => AB hg2 ?_)
        refine pM (.int _ _) (AB hg2 ?_)
        refine AW (AB hg2 (bk hk fun c30 hc30 hk => ?_))
        refine e7 hs29 hc30 Cl FO (fun b31 hb31 => AB hg2 ?_)
        refine Xt (.bool _) hs29 hb31 hc30 Fk (AB hg2 ?_)
        refine pU (AB hg ?_)
        refine Cr hg2 (.bool _) ?_
        cases hk; exact pE ek
       ·replace hk := cf hg2 ht
        refine AE hg2 (AE hg2 (AE hg2 (AE hg2 (AE hg2 (AE hg2 (AE hg2 (AE hg2 (AE hg2 (AB hg (Cq hg2 (.bool _) ?_))))))))))
        cases hk; exact pE ek
      ·intro J
       refine Cq hg (.bool _) ?_
       cases hk; exact pE ek
    ·intro J
     refine pE (gn (Aq hk (fun hk => ?_) (fun hk => ?_)))
     ·refine Aw (gr (br (gr (br (gr (have hk := lx hx1 hk; ?_))))))
      replace hk := Option.some.inj hk; subst hk; exact XF (Fp1, Fp2, Fp3) (pk hO [1, 2, 3, 4]) hFr (J9 (Zx hq) (J9 Lm (J9 Lm (J9 Lm Xy)))) rfl rfl rfl rfl (by first | exact Or.inl rfl | exact Or.inr rfl)
     ·refine Ar (gn (A4 (pM (.ptr _ _) ?_)))
      refine Ch ?_
      refine pF Bw ?_
      refine GM Bn (.int _ _) hO 4 hv19 hc18 BU ?_
      refine AW ?_
      refine Ch ?_
      refine pF Bw ?_
      refine MS Bn (y' := (BT (c18.Ab + (1:Int)))) hO 4 hv19 hc18 DP (fun _ => ⟨rfl, rfl⟩) hFr hS rfl (fun H1 G hFr hO => ?_)
      have hc_32 := Bp hc18 ({ c18 with Ab := BT (c18.Ab + (1:Int)) } : AG)
      have hv_32 := Cu (j := aH2i.toNat) (y := ({ c18 with Ab := BT (c18.Ab + (1:Int)) } : AG)) hv19
      refine pE (bn (gn ?_))
      cases hk; exact ⟨_, rfl, _, _, _, hc_32, hv_32, hFr, hO, sh⟩
  ·refine D3 (ge (ge (be (gn (have hk := lx hx1 hk; A4 (pM (.ptr _ _) ?_))))))
   replace hO := (A5.pick hO [4, 0, 1, 2, 3] (by decide) rfl : A5 H1 G ([AY S0 Fp3 x17 [vp3]] ++ [.Ad b2 (.cells 5 (Cn l1 0 l2 0 l3 0 l4 0 l5 0 aW0)), .DA S0 q0 (.cells 4 [.bool aF1.Ok, vp1, vp2, vp3]), AY S0 Fp1 aF1.C5 [vp1], AY S0 Fp2 aF1.AF [vp2]]))
   refine bk hk fun z33 hz33 hk => bF (rs0 := [AY S0 Fp3 x17 [vp3]]) (rs1 := fun (Fs34 : List Nat) => [AY S0 Fs34 z33 [vp3]]) (rest := [.Ad b2 (.cells 5 (Cn l1 0 l2 0 l3 0 l4 0 l5 0 aW0)), .DA S0 q0 (.cells 4 [.bool aF1.Ok, vp1, vp2, vp3]), AY S0 Fp1 aF1.C5 [vp1], AY S0 Fp2 aF1.AF [vp2]]) (S := (Fp3 ++ [])) hO hFr hS hlo (R4 rfl) (Ms rfl) (RQ rfl fE) (fun hl1 hlt1 hun1 ho1 => ZH hz33 hv19 ho1 hun1 hlt1 hl1) (fun _ => (RQ rfl fE)) (fun Fs34 H1 G hFr hO => pE ?_)
   replace hk := Option.some.inj hk; subst hk; exact XF (Fp1, Fp2, Fs34) (pk hO [2, 3, 4, 0]) hFr (J9 (Zx hq) (J9 Lm (J9 Lm (J9 Lm Xy)))) rfl rfl rfl rfl (by first | exact Or.inl rfl | exact Or.inr rfl)
def LL (x9 : Int) (x10 : Bool) (x11 : List Bool) (x13 : List Al) (x15 : List AG) : Option ((Bool × (List Bool) × (List Al) × (List AG) × Int) ⊕ AD) :=
 some (.inl (x10, x11, x13, x15, BT (x9 + (1:Int))))
def Ni (x2 : Bool) (x3 : List Bool) (x5 : List Al) (x9 : Int) (c19 : Bq) (x29 : List AG) (c31 : AG) : Option ((Bool × (List Bool) × (List Al) × (List AG) × Int) ⊕ AD) :=
 (bif (c31.State == (4:Int)) then ((iF c19 ({ Ok := x2, C5 := x3, AF := x5, A7 := x29 } : AD) x9).bind fun z33 => (LL x9 z33.Ok z33.C5 z33.AF z33.A7)) else (LL x9 x2 x3 x5 x29))
def Nh (aP0 : AP) (x2 : Bool) (x3 : List Bool) (x5 : List Al) (x9 : Int) (c19 : Bq) (x23 : List AG) (c25 : AG) : Option ((Bool × (List Bool) × (List Al) × (List AG) × Int) ⊕ AD) :=
 (bif ((c25.State == (1:Int)) || (c25.State == (2:Int))) then ((iE aP0 ({ Ok := x2, C5 := x3, AF := x5, A7 := x23.set x9.toNat ({ c25 with State := (1:Int) }) } : AD) x9).bind fun v36 => (bif v36 then (Ni x2 x3 x5 x9 c19 (((x23.set x9.toNat ({ c25 with State := (1:Int) })).set x9.toNat ({ ({ c25 with State := (1:Int) } : AG) with State := (2:Int) })).set x9.toNat ({ ({ ({ c25 with State := (1:Int) } : AG) with State := (2:Int) } : AG) with Shown := true })) ({ ({ ({ c25 with State := (1:Int) } : AG) with State := (2:Int) } : AG) with Shown := true } : AG)) else (Ni x2 x3 x5 x9 c19 (x23.set x9.toNat ({ c25 with State := (1:Int) })) ({ c25 with State := (1:Int) } : AG)))) else (Ni x2 x3 x5 x9 c19 x23 c25))
def Ng (aP0 : AP) (aF1 : AD) : (Bool × (List Bool) × (List Al) × (List AG) × Int) → Option ((Bool × (List Bool) × (List Al) × (List AG) × Int) ⊕ AD) := fun s =>
 (bif decide (s.2.2.2.2 < (aF1.A7.length : Int)) then ((AK s.2.2.2.1 s.2.2.2.2).bind fun c17 => ((AK aP0.A7 s.2.2.2.2).bind fun c19 => (bif (c17.State == (0:Int)) then (LL s.2.2.2.2 s.1 s.2.1 s.2.2.1 s.2.2.2.1) else ((bif (c17.State != (4:Int)) then ((AK c19.A0 (0:Int)).bind fun c43 => ((AK s.2.1 c43).bind fun c44 => some c44)) else some false).bind fun t42 => (bif t42 then (Nh aP0 s.1 s.2.1 s.2.2.1 s.2.2.2.2 c19 ((s.2.2.2.1.set s.2.2.2.2.toNat ({ c17 with State := (4:Int) })).set s.2.2.2.2.toNat ({ ({ c17 with State := (4:Int) } : AG) with Timer := (0:Int) })) ({ ({ c17 with State := (4:Int) } : AG) with Timer := (0:Int) } : AG)) else (Nh aP0 s.1 s.2.1 s.2.2.1 s.2.2.2.2 c19 s.2.2.2.1 c17)))))) else ((some ({ Ok := s.1, C5 := s.2.1, AF := s.2.2.1, A7 := s.2.2.2.1 } : AD)).map Sum.inr))
def aW (aP0 : AP) (aF1 : AD) : Option AD :=
 (AJ (Ng aP0 aF1) (aF1.Ok, aF1.C5, aF1.AF, aF1.A7, (0:Int)))
theorem ZI {aP0 : AP} {aF1 : AD} {r : AD} {l1 l2 m3 l4 m5 : Nat} {q0 : Nat} {vp1 vp2 vp3 : V} {S0 Fp1 Fp2 Fp3 : List Nat} (hk : aW aP0 aF1 = some r) (hO : A5 H H [.DA S0 q0 (.cells 4 [.bool aF1.Ok, vp1, vp2, vp3]), AY S0 Fp1 aF1.C5 [vp1], AY S0 Fp2 aF1.AF [vp2], AY S0 Fp3 aF1.A7 [vp3]]) (hS : ∀ b ∈ S0, AV lk b = true) (hlt : ∀ b ∈ S0, b < H.length) (hlo : E9 lk H.length) (hlk : 0 < lk.length := by simp) : ∃ v H1, Am Tryz.prog hh 66 [.agg (Ai l1 0 l2 m3 l4 m5 aP0), .ptr q0 0] H lk = some (v, H1) ∧ v = .Fl [] ∧ ∃ (Fs : List Nat × List Nat × List Nat) (Hm : A3), Bu H Hm (S0) ∧ A5 Hm H1 [.DA S0 q0 (.cells 4 [.bool r.Ok, vp1, vp2, vp3]), AY S0 Fs.1 r.C5 [vp1], AY S0 Fs.2.1 r.AF [vp2], AY S0 Fs.2.2 r.A7 [vp3]] := by
 refine B0 Tryz.func66 rfl Tryz.ntmps66 Tryz.results66 rfl rfl ?_
 have hFr := Bu.refl H (S0)
 unfold aW at hk
 have hq := (List.getElem?_eq_some_iff.1 (hO.XM (k := 0) rfl).1).1
 refine A1 (A4 (BZ (cs := [_, _, _, _, _]) hO CC (fun b1 G hO => pE (gn (A1 (A4 ?_))))))
 refine pM (.ptr _ _) ?_
 refine Ch ?_
 refine pF Bd ?_
 refine Yc hO 1 vp3 Dv ?_
 refine Ji hO 4 IJ ?_
 refine pM (.int _ _) (pE (gn (BO ?_)))
 refine AA (F := Ng aP0 aF1) (fun s S' => ∃ (F4 : List Nat) (F6 : List Nat) (F8 : List Nat) (J : Nat → V) (G : A3) (H1 : A3), Bu H H1 S0 ∧ A5 H1 G [.Ad b1 (.cells 5 (Ai l1 0 l2 m3 l4 m5 aP0)), .DA S0 q0 (.cells 4 [.bool s.1, vp1, vp2, vp3]), AY S0 F4 s.2.1 [vp1], AY S0 F6 s.2.2.1 [vp2], AY S0 F8 s.2.2.2.1 [vp3]] ∧ S' = ⟨CM [(1, .ptr q0 0), (2, .ptr b1 0), (11, iv (aF1.A7.length : Int)), (12, iv s.2.2.2.2)] J, G⟩) hk ⟨Fp1, Fp2, Fp3, _, _, _, hFr, hO, sh⟩ ?_
 rintro ⟨x2, x3, x5, x7, x9⟩ _ y1 ⟨F4, F6, F8, J, G, H1, hFr, hO, rfl⟩ hk hx1
 refine A1 (A4 (AW (pE (gn (A1 (Aq hk (fun hk => ?_) (fun hk => ?_)))))))
 ·refine Ar (gn (CQ (fun S' => ∃ (x10 : Bool) (x11 : List Bool) (x13 : List Al) (x15 : List AG) (F12 : List Nat) (F14 : List Nat) (F16 : List Nat) (J : Nat → V) (G : A3) (H1 : A3), LL x9 x10 x11 x13 x15 = some y1 ∧ Bu H H1 S0 ∧ A5 H1 G [.Ad b1 (.cells 5 (Ai l1 0 l2 m3 l4 m5 aP0)), .DA S0 q0 (.cells 4 [.bool x10, vp1, vp2, vp3]), AY S0 F12 x11 [vp1], AY S0 F14 x13 [vp2], AY S0 F16 x15 [vp3]] ∧ S' = ⟨CM [(1, .ptr q0 0), (2, .ptr b1 0), (11, iv (aF1.A7.length : Int)), (12, iv x9)] J, G⟩) ?_ ?_))
  ·refine BO (A1 (A4 (pM (.int _ _) ?_)))
   refine pA (.int _ _) (pE (gn (A1 (A4 ?_))))
   refine pM (.ptr _ _) ?_
   refine Ch ?_
   refine pF Bd ?_
   refine Yc hO 1 vp3 Dv ?_
   refine pM (.int _ _) (bk hk fun c17 hc17 hk => ?_)
   refine L7 hO 4 hc17 EJ Av (fun b18 hb18 => ?_)
   refine pA (.ptr _ _) (pE (gn (A1 (A4 ?_))))
   refine As Bl hO 0 (.lit _ _ _) Du ?_
   refine pM (.int _ _) (bk hk fun c19 hc19 hk => ?_)
   refine pX hc19 Er Az ?_
   refine Br (.agg [_, _, _, _, _]) (G8 (lm := m3) (off := 0) hc19 Ew Az) (CK hO Az IU (fun b20 G hO => ?_))
   refine Cs (xs := [_, _, _, _, _]) hO 0 Az hFr.1.symm (fun G hO => pE (gn (A1 (A1 (A4 ?_)))))
   refine pM (.ptr _ _) ?_
   refine Ch ?_
   refine pF B8 ?_
   refine GM BL (.int _ _) hO 5 hb18 hc17 BU ?_
   refine AW (pE (gn (Aq hk (fun hk => ?_) (fun hk => ?_))))
   ·exact D3 (ge (be (gn (⟨x2, x3, x5, x7, F4, F6, F8, _, _, _, hk, hFr, (pk hO [1, 2, 3, 4, 5]), sh⟩))))
   ·refine Ar (gn (CQ (fun S' => ∃ (x23 : List AG) (c25 : AG) (F21 : List Nat) (F22 : List Nat) (F24 : List Nat) (J : Nat → V) (G : A3) (H1 : A3), Nh aP0 x2 x3 x5 x9 c19 x23 c25 = some y1 ∧ AK x23 x9 = some c25 ∧ vp3 = .sl b18 0 x23.length ∧ Bu H H1 S0 ∧ A5 H1 G [.Ad b20 (.cells 5 (Cn m3 0 m3 0 m3 0 m3 0 m3 0 c19)), .Ad b1 (.cells 5 (Ai l1 0 l2 m3 l4 m5 aP0)), .DA S0 q0 (.cells 4 [.bool x2, vp1, vp2, vp3]), AY S0 F21 x3 [vp1], AY S0 F22 x5 [vp2], AY S0 F24 x23 [vp3]] ∧ S' = ⟨CM [(1, .ptr q0 0), (2, .ptr b1 0), (4, iv x9), (5, .ptr b18 (x9.toNat * 5)), (6, .ptr b20 0), (11, iv (aF1.A7.length : Int)), (12, iv x9)] J, G⟩) ?_ ?_))
    ·refine A1 (BC [(0, false), (1, false), (2, false), (3, true), (4, false), (5, false), (6, true), (7, true), (8, true), (9, true), (10, true), (11, true), (12, true), (13, true), (14, false), (15, true), (16, false)] [_, _, _, _, _, _, _, _, _, _, _, _, _, _, _, _, _] (by decide +kernel) (by rfl) ?_)
     refine pM (.ptr _ _) ?_
     refine Ch ?_
     refine pF B8 ?_
     refine GM BL (.int _ _) hO 5 hb18 hc17 BU ?_
     refine AW ?_
     refine pM (.bool _) (bk hk fun t42 ht hk => ?_)
     refine AS (l1 := [_, _, _, _, _, _, _, _, _, _, _]) [37, 38, 39, 40, 41, 42, 43, 44, 45, 46, 47] 47 (.bool t42) ?_ ?_
     ·refine bc (b := (c17.State != (4:Int))) (fun hg => ?_) (fun hg => ?_)
      ·replace hk := ct hg ht
       refine AB hg (pM (.ptr _ _) (AB hg ?_))
       refine Ch (AB hg ?_)
       refine pF Cm (AB hg ?_)
       refine Yc hO 2 vp1 C8 (AB hg ?_)
       refine pF BI (AB hg ?_)
       refine CN hO 0 (.lit _ _ _) BK (AB hg (bk hk fun c43 hc43 hk => ?_))
       refine pX hc43 C4 DP (AB hg ?_)
       refine Br (.int _ _) (D4 (lm := 0) (off := 0) hc43 BU) (AB hg (bk hk fun c44 hc44 hk => ?_))
       refine L7 hO 3 hc44 Cl FO (fun b45 hb45 => AB hg ?_)
       refine GM (Bm.all (α := Bool)) (.bool _) hO 3 hb45 hc44 Fk ?_
       refine Cr hg (.bool _) ?_
       cases hk; exact pE ek
      ·replace hk := cf hg ht
       refine AE hg (AE hg (AE hg (AE hg (AE hg (AE hg (AE hg (AE hg (AE hg (AE hg (Cq hg (.bool _) ?_))))))))))
       cases hk; exact pE ek
     ·intro J
      refine pE (gn (Aq hk (fun hk => ?_) (fun hk => ?_)))
      ·refine A1 (A4 (pM (.ptr _ _) ?_))
       refine Ch ?_
       refine pF B8 ?_
       refine MS BL (y' := (4:Int)) hO 5 hb18 hc17 DP (fun _ => ⟨rfl, rfl⟩) hFr hS rfl (fun H1 G hFr hO => ?_)
       have hc_46 := Bp hc17 ({ c17 with State := (4:Int) } : AG)
       have hv_46 := Cu (j := x9.toNat) (y := ({ c17 with State := (4:Int) } : AG)) hb18
       refine pE (gn (A4 (pM (.ptr _ _) ?_)))
       refine Ch ?_
       refine pF E5 ?_
       refine MS Gd (y' := (0:Int)) hO 5 hv_46 hc_46 DP (fun _ => ⟨rfl, rfl⟩) hFr hS rfl (fun H1 G hFr hO => ?_)
       have hc_47 := Bp hc_46 ({ ({ c17 with State := (4:Int) } : AG) with Timer := (0:Int) } : AG)
       have hv_47 := Cu (j := x9.toNat) (y := ({ ({ c17 with State := (4:Int) } : AG) with Timer := (0:Int) } : AG)) hv_46
       exact pE (gn (⟨(x7.set x9.toNat ({ c17 with State := (4:Int) })).set x9.toNat ({ ({ c17 with State := (4:Int) } : AG) with Timer := (0:Int) }), ({ ({ c17 with State := (4:Int) } : AG) with Timer := (0:Int) } : AG), F4, F6, F8, _, _, _, hk, hc_47, hv_47, hFr, hO, sh⟩))
      ·exact Ar (gn (⟨x7, c17, F4, F6, F8, _, _, _, hk, hc17, hb18, hFr, hO, sh⟩))
    ·rintro _ ⟨x23, c25, F21, F22, F24, J, G, H1, hk, hc25, hv26, hFr, hO, rfl⟩
     refine CQ (fun S' => ∃ (x29 : List AG) (c31 : AG) (F27 : List Nat) (F28 : List Nat) (F30 : List Nat) (J : Nat → V) (G : A3) (H1 : A3), Ni x2 x3 x5 x9 c19 x29 c31 = some y1 ∧ AK x29 x9 = some c31 ∧ vp3 = .sl b18 0 x29.length ∧ Bu H H1 S0 ∧ A5 H1 G [.Ad b20 (.cells 5 (Cn m3 0 m3 0 m3 0 m3 0 m3 0 c19)), .Ad b1 (.cells 5 (Ai l1 0 l2 m3 l4 m5 aP0)), .DA S0 q0 (.cells 4 [.bool x2, vp1, vp2, vp3]), AY S0 F27 x3 [vp1], AY S0 F28 x5 [vp2], AY S0 F30 x29 [vp3]] ∧ S' = ⟨CM [(1, .ptr q0 0), (2, .ptr b1 0), (5, .ptr b18 (x9.toNat * 5)), (6, .ptr b20 0), (11, iv (aF1.A7.length : Int)), (12, iv x9)] J, G⟩) ?_ ?_
     ·refine A1 (A4 (pM (.ptr _ _) ?_))
      refine Ch ?_
      refine pF B8 ?_
      refine GM BL (.int _ _) hO 5 hv26 hc25 BU ?_
      refine AW ?_
      refine pM (.bool _) ?_
      refine AS (l1 := [_, _, _, _, _, _]) [60, 61, 62, 63, 64, 65] 65 (.bool ((c25.State == (1:Int)) || (c25.State == (2:Int)))) ?_ ?_
      ·refine bc (b := (c25.State == (1:Int))) (fun hg => ?_) (fun hg => ?_)
       ·refine AE hg (AE hg (AE hg (AE hg (AE hg (Cr hg (.bool _) ?_)))))
        exact pE (ek (by rw [hg]; rfl))
       ·refine AB hg (pM (.ptr _ _) (AB hg ?_))
        refine Ch (AB hg ?_)
        refine pF B8 (AB hg ?_)
        refine GM BL (.int _ _) hO 5 hv26 hc25 BU (AB hg ?_)
        refine AW ?_
        refine Cq hg (.bool _) ?_
        exact pE (ek (by rw [hg]; rfl))
      ·intro J
       refine pE (gn (Aq hk (fun hk => ?_) (fun hk => ?_)))
       ·refine A1 (A4 (pM (.ptr _ _) ?_))
        refine Ch ?_
        refine pF B8 ?_
        refine MS BL (y' := (1:Int)) hO 5 hv26 hc25 DP (fun _ => ⟨rfl, rfl⟩) hFr hS rfl (fun H1 G hFr hO => ?_)
        have hc_35 := Bp hc25 ({ c25 with State := (1:Int) } : AG)
        have hv_35 := Cu (j := x9.toNat) (y := ({ c25 with State := (1:Int) } : AG)) hv26
        refine pE (gn (A1 (BC [(0, true), (1, true), (2, true), (3, true), (4, true), (5, false)] [_, _, _, _, _, _] (by decide +kernel) (by rfl) ?_)))
        refine E4 hO 1 [_, _, _, _, _] FB CC ?_
        refine pM (.ptr _ _) ?_
        refine Ch ?_
        refine iY hO 2 Ep Bv ?_
        refine pM (.int _ _) (bk hk fun v36 hv36 hk => ?_)
        obtain ⟨_, hm37⟩ := S7 hO (j := 5) rfl (lk.length + 1) 7
        obtain ⟨_, hm38⟩ := Fb hO (j := 4) rfl (lk.length + 1) 7
        obtain ⟨_, hm39⟩ := Fb hO (j := 3) rfl (lk.length + 1) 7
        refine AR (vs := [(.agg [_, _, _, _, _]), (.agg [_, _, _, _]), (.int _ _)]) (caps := []) (fun _ => Za hv36) ?_ (h3 := (BH rfl (BH (Qt (DS rfl (DS hm39 (DS hm38 (DS hm37 Qw))))) (BH rfl EF))))
        refine pE (gn (Aq hk (fun hk => ?_) (fun hk => ?_)))
        ·refine A1 (A4 (pM (.ptr _ _) ?_))
         refine Ch ?_
         refine pF B8 ?_
         refine MS BL (y' := (2:Int)) hO 5 hv_35 hc_35 DP (fun _ => ⟨rfl, rfl⟩) hFr hS rfl (fun H1 G hFr hO => ?_)
         have hc_40 := Bp hc_35 ({ ({ c25 with State := (1:Int) } : AG) with State := (2:Int) } : AG)
         have hv_40 := Cu (j := x9.toNat) (y := ({ ({ c25 with State := (1:Int) } : AG) with State := (2:Int) } : AG)) hv_35
         refine pE (gn (A4 (pM (.ptr _ _) ?_)))
         refine Ch ?_
         refine pF Dm ?_
         refine MS Gc (y' := true) hO 5 hv_40 hc_40 FO (fun _ => ⟨rfl, rfl⟩) hFr hS rfl (fun H1 G hFr hO => ?_)
         have hc_41 := Bp hc_40 ({ ({ ({ c25 with State := (1:Int) } : AG) with State := (2:Int) } : AG) with Shown := true } : AG)
         have hv_41 := Cu (j := x9.toNat) (y := ({ ({ ({ c25 with State := (1:Int) } : AG) with State := (2:Int) } : AG) with Shown := true } : AG)) hv_40
         exact pE (gn (⟨((x23.set x9.toNat ({ c25 with State := (1:Int) })).set x9.toNat ({ ({ c25 with State := (1:Int) } : AG) with State := (2:Int) })).set x9.toNat ({ ({ ({ c25 with State := (1:Int) } : AG) with State := (2:Int) } : AG) with Shown := true }), ({ ({ ({ c25 with State := (1:Int) } : AG) with State := (2:Int) } : AG) with Shown := true } : AG), F21, F22, F24, _, _, _, hk, hc_41, hv_41, hFr, hO, sh⟩))
        ·exact Ar (gn (⟨x23.set x9.toNat ({ c25 with State := (1:Int) }), ({ c25 with State := (1:Int) } : AG), F21, F22, F24, _, _, _, hk, hc_35, hv_35, hFr, hO, sh⟩))
       ·exact Ar (gn (⟨x23, c25, F21, F22, F24, _, _, _, hk, hc25, hv26, hFr, hO, sh⟩))
     ·rintro _ ⟨x29, c31, F27, F28, F30, J, G, H1, hk, hc31, hv32, hFr, hO, rfl⟩
      refine A1 (A4 (pM (.ptr _ _) ?_))
      refine Ch ?_
      refine pF B8 ?_
      refine GM BL (.int _ _) hO 5 hv32 hc31 BU ?_
      refine AW (pE (gn (Aq hk (fun hk => ?_) (fun hk => ?_))))
      ·refine A4 (E4 hO 0 [_, _, _, _, _] Ew Az ?_)
       refine pM (.ptr _ _) ?_
       refine pM (.ptr _ _) ?_
       replace hO := (A5.pick hO [2, 3, 4, 5, 0, 1] (by decide) rfl : A5 H1 G ([.DA S0 q0 (.cells 4 [.bool x2, vp1, vp2, vp3]), AY S0 F27 x3 [vp1], AY S0 F28 x5 [vp2], AY S0 F30 x29 [vp3]] ++ [.Ad b20 (.cells 5 (Cn m3 0 m3 0 m3 0 m3 0 m3 0 c19)), .Ad b1 (.cells 5 (Ai l1 0 l2 m3 l4 m5 aP0))]))
       refine bk hk fun z33 hz33 hk => bF (rs0 := [.DA S0 q0 (.cells 4 [.bool x2, vp1, vp2, vp3]), AY S0 F27 x3 [vp1], AY S0 F28 x5 [vp2], AY S0 F30 x29 [vp3]]) (rs1 := fun (Fs34 : List Nat × List Nat × List Nat) => [.DA S0 q0 (.cells 4 [.bool z33.Ok, vp1, vp2, vp3]), AY S0 Fs34.1 z33.C5 [vp1], AY S0 Fs34.2.1 z33.AF [vp2], AY S0 Fs34.2.2 z33.A7 [vp3]]) (rest := [.Ad b20 (.cells 5 (Cn m3 0 m3 0 m3 0 m3 0 m3 0 c19)), .Ad b1 (.cells 5 (Ai l1 0 l2 m3 l4 m5 aP0))]) (S := (q0 :: (F27 ++ (F28 ++ (F30 ++ []))))) hO hFr hS hlo (R4 rfl) (Ms rfl) (RQ rfl (RQ rfl (RQ rfl (RQ rfl fE)))) (fun hl1 hlt1 hun1 ho1 => Zb hz33 hv32 ho1 hun1 hlt1 hl1) (fun _ => (RQ rfl (RQ rfl (RQ rfl (RQ rfl fE))))) (fun Fs34 H1 G hFr hO => pE (bn (gn ?_)))
       exact ⟨z33.Ok, z33.C5, z33.AF, z33.A7, Fs34.1, Fs34.2.1, Fs34.2.2, _, _, _, hk, hFr, (pk hO [5, 0, 1, 2, 3]), sh⟩
      ·exact Ar (bn (gn (⟨x2, x3, x5, x29, F27, F28, F30, _, _, _, hk, hFr, (pk hO [1, 2, 3, 4, 5]), sh⟩)))
  ·rintro _ ⟨x10, x11, x13, x15, F12, F14, F16, J, G, H1, hk, hFr, hO, rfl⟩
   refine A4 (AW ?_)
   refine pM (.int _ _) (pE (gn ?_))
   cases hk; exact ⟨_, rfl, F12, F14, F16, _, _, _, hFr, hO, sh⟩
 ·refine D3 (ge (ge (be (have hk := lx hx1 hk; ?_))))
  replace hk := Option.some.inj hk; subst hk; exact XF (F4, F6, F8) (pk hO [1, 2, 3, 4]) hFr (J9 (Zx hq) (J9 Lm (J9 Lm (J9 Lm Xy)))) rfl rfl rfl rfl (by first | exact Or.inl rfl | exact Or.inr rfl)
end
end Go.Proofs.YtphpkphklegfeaaGreat.K
