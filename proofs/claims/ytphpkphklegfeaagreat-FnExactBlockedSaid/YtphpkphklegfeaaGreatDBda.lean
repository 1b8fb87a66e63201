/-
 The functions that FnExactBlocked reaches, as typed Lean functions, and that the interpreter computes them. Part 1 of 4. No conditions.
-/
import Derived.Test.YtphpkphklegfeaaGreatK3
import Derived.Test.YtphpkphklegfeaaGreatProg
set_option linter.unusedVariables false
set_option linter.unusedSimpArgs false
set_option maxRecDepth 100000
namespace Go.Proofs.YtphpkphklegfeaaGreat.K
noncomputable section
variable {H : A3} {lk : Lk}
def hh : Bg := { Cs := fun k => bif Nat.beq k 15 || Nat.beq k 16 || Nat.beq k 17 || Nat.beq k 22 || Nat.beq k 53 || Nat.beq k 54 || Nat.beq k 55 || Nat.beq k 56 || Nat.beq k 57 || Nat.beq k 88 then [.exact] else [], N4 := fun k => Nat.beq k 9 || Nat.beq k 10 || Nat.beq k 20 || Nat.beq k 39 || Nat.beq k 40 || Nat.beq k 41 || Nat.beq k 42 || Nat.beq k 43 || Nat.beq k 44 || Nat.beq k 59 || Nat.beq k 61 || Nat.beq k 76 || Nat.beq k 78 || Nat.beq k 95 || Nat.beq k 98 || Nat.beq k 106 || Nat.beq k 115 || Nat.beq k 116 || Nat.beq k 117, grow := fun k => Nat.beq k 65 || Nat.beq k 66 || Nat.beq k 94 || Nat.beq k 99 || Nat.beq k 114, GP := fun k => Nat.beq k 40 || Nat.beq k 41 || Nat.beq k 44 || Nat.beq k 58 || Nat.beq k 61 || Nat.beq k 93 }
structure Aa where
 Switch : Int
 EZ : Int
instance : AM Aa := ⟨2, by decide, fun l x => AM.Bc l x.Switch ++ (AM.Bc l x.EZ), fun x => by simp only [List.length_append, AM.len]; rfl, fun x h => by simp only [CE, AM.GC _ h]; rfl, fun x => by simp only [List.all_append, AM.cell]; rfl⟩
instance : An Aa := An.via (fun x => (x.Switch, x.EZ) : Aa → Int × Int) rfl fun _ _ => rfl
instance : Hg Aa := ⟨fun h => Hg.inv (α := Int × Int) h⟩
instance : Ju Aa := ⟨fun h d => Ju.cl (α := Int × Int) h d⟩
instance : D3 Aa := ⟨fun G x => D3.fl (α := Int × Int) G (x.Switch, x.EZ), fun l x => D3.hJ (α := Int × Int) l (x.Switch, x.EZ), D3.pos (α := Int × Int)⟩
theorem Mz : Bf Aa Int (fun x => x.Switch) (fun x y => { x with Switch := y }) 0 := Bf.via (α := Aa) (f := (fun x => (x.Switch, x.EZ) : Aa → Int × Int)) (hz := rfl) (he := fun _ _ => rfl) (Bf.fst) fun _ _ => rfl
theorem RV : Bf Aa Int (fun x => x.EZ) (fun x y => { x with EZ := y }) 1 := Bf.via (α := Aa) (f := (fun x => (x.Switch, x.EZ) : Aa → Int × Int)) (hz := rfl) (he := fun _ _ => rfl) (Bf.snd) fun _ _ => rfl
structure Bu where
 A0 : List Int
 AO : List Aa
 AB : List Aa
 BY : List Int
 DF : List Int
instance : AM Bu := ⟨5, by decide, fun l x => AM.Bc l x.A0 ++ (AM.Bc l x.AO ++ (AM.Bc l x.AB ++ (AM.Bc l x.BY ++ (AM.Bc l x.DF)))), fun x => by simp only [List.length_append, AM.len]; rfl, fun x h => by simp only [CE, AM.GC _ h]; rfl, fun x => by simp only [List.all_append, AM.cell]; rfl⟩
abbrev Cq (a b c d e f g h i j : Nat) (x : Bu) : List V := [AN a b x.A0, AN c d x.AO, AN e f x.AB, AN g h x.BY, AN i j x.DF]
instance : An Bu := An.via (fun x => (x.A0, x.AO, x.AB, x.BY, x.DF) : Bu → (List Int) × (List Aa) × (List Aa) × (List Int) × (List Int)) rfl fun _ _ => rfl
instance : Ju Bu := ⟨fun h d => Ju.cl (α := (List Int) × (List Aa) × (List Aa) × (List Int) × (List Int)) h d⟩
theorem M6 : Bf Bu (List Int) (fun x => x.A0) (fun x y => { x with A0 := y }) 0 := Bf.via (α := Bu) (f := (fun x => (x.A0, x.AO, x.AB, x.BY, x.DF) : Bu → (List Int) × (List Aa) × (List Aa) × (List Int) × (List Int))) (hz := rfl) (he := fun _ _ => rfl) (Bf.fst) fun _ _ => rfl
theorem RW : Bf Bu (List Aa) (fun x => x.AO) (fun x y => { x with AO := y }) 1 := Bf.via (α := Bu) (f := (fun x => (x.A0, x.AO, x.AB, x.BY, x.DF) : Bu → (List Int) × (List Aa) × (List Aa) × (List Int) × (List Int))) (hz := rfl) (he := fun _ _ => rfl) (Bf.comp Bf.snd (Bf.fst)) fun _ _ => rfl
theorem Oi : Bf Bu (List Aa) (fun x => x.AB) (fun x y => { x with AB := y }) 2 := Bf.via (α := Bu) (f := (fun x => (x.A0, x.AO, x.AB, x.BY, x.DF) : Bu → (List Int) × (List Aa) × (List Aa) × (List Int) × (List Int))) (hz := rfl) (he := fun _ _ => rfl) (Bf.comp Bf.snd (Bf.comp Bf.snd (Bf.fst))) fun _ _ => rfl
theorem RY : Bf Bu (List Int) (fun x => x.BY) (fun x y => { x with BY := y }) 3 := Bf.via (α := Bu) (f := (fun x => (x.A0, x.AO, x.AB, x.BY, x.DF) : Bu → (List Int) × (List Aa) × (List Aa) × (List Int) × (List Int))) (hz := rfl) (he := fun _ _ => rfl) (Bf.comp Bf.snd (Bf.comp Bf.snd (Bf.comp Bf.snd (Bf.fst)))) fun _ _ => rfl
theorem RX : Bf Bu (List Int) (fun x => x.DF) (fun x y => { x with DF := y }) 4 := Bf.via (α := Bu) (f := (fun x => (x.A0, x.AO, x.AB, x.BY, x.DF) : Bu → (List Int) × (List Aa) × (List Aa) × (List Int) × (List Int))) (hz := rfl) (he := fun _ _ => rfl) (Bf.comp Bf.snd (Bf.comp Bf.snd (Bf.comp Bf.snd (Bf.snd)))) fun _ _ => rfl
theorem gI {H : A3} {d n : Nat} {rs rs1 : List BH} {cs : List V} {x : Bu} (h : Ld n H d rs cs (x.A0, x.AO, x.AB, x.BY, x.DF) rs1) : Ld n H d rs cs x rs1 := h
theorem mU {H G : A3} {rs : List BH} {S F : List Nat} {x : Bu} {cs : List V} {j : Nat} (hO : A6 H G rs) (hj : rs[j]? = some (AY S F x cs)) (lv n : Nat) (hn : Nat.ble (An.dep Bu) n = true := by rfl) : ∃ M, Ao lv G (n + 1) (.agg cs) = some (.agg [AN lv 0 x.A0, AN lv 0 x.AO, AN lv 0 x.AB, AN lv 0 x.BY, AN lv 0 x.DF], M) := by
 have h := P4 hO hj lv n hn
 have e : AM.Bc lv x = [AN lv 0 x.A0, AN lv 0 x.AO, AN lv 0 x.AB, AN lv 0 x.BY, AN lv 0 x.DF] := by
  show ([AN lv lv x.A0, AN lv lv x.AO, AN lv lv x.AB, AN lv lv x.BY, AN lv lv x.DF] : List V) = _
  simp only [AN, IJ]
 rwa [e] at h
structure AQ where
 A0 : Int
 A7 : List Int
 A5 : List Bu
 BX : List (List Bool)
 ED : Int
instance : AM AQ := ⟨5, by decide, fun l x => AM.Bc l x.A0 ++ (AM.Bc l x.A7 ++ (AM.Bc l x.A5 ++ (AM.Bc l x.BX ++ (AM.Bc l x.ED)))), fun x => by simp only [List.length_append, AM.len]; rfl, fun x h => by simp only [CE, AM.GC _ h]; rfl, fun x => by simp only [List.all_append, AM.cell]; rfl⟩
abbrev Aj (a b c d e f : Nat) (x : AQ) : List V := [.int .i64 x.A0, AN a b x.A7, AN c d x.A5, AN e f x.BX, .int .i64 x.ED]
instance : An AQ := An.via (fun x => (x.A0, x.A7, x.A5, x.BX, x.ED) : AQ → Int × (List Int) × (List Bu) × (List (List Bool)) × Int) rfl fun _ _ => rfl
instance : Ju AQ := ⟨fun h d => Ju.cl (α := Int × (List Int) × (List Bu) × (List (List Bool)) × Int) h d⟩
theorem L4 : Bf AQ (List Int) (fun x => x.A7) (fun x y => { x with A7 := y }) 1 := Bf.via (α := AQ) (f := (fun x => (x.A0, x.A7, x.A5, x.BX, x.ED) : AQ → Int × (List Int) × (List Bu) × (List (List Bool)) × Int)) (hz := rfl) (he := fun _ _ => rfl) (Bf.comp Bf.snd (Bf.fst)) fun _ _ => rfl
theorem Pq : Bf AQ (List Bu) (fun x => x.A5) (fun x y => { x with A5 := y }) 2 := Bf.via (α := AQ) (f := (fun x => (x.A0, x.A7, x.A5, x.BX, x.ED) : AQ → Int × (List Int) × (List Bu) × (List (List Bool)) × Int)) (hz := rfl) (he := fun _ _ => rfl) (Bf.comp Bf.snd (Bf.comp Bf.snd (Bf.fst))) fun _ _ => rfl
theorem Pp : Bf AQ (List (List Bool)) (fun x => x.BX) (fun x y => { x with BX := y }) 3 := Bf.via (α := AQ) (f := (fun x => (x.A0, x.A7, x.A5, x.BX, x.ED) : AQ → Int × (List Int) × (List Bu) × (List (List Bool)) × Int)) (hz := rfl) (he := fun _ _ => rfl) (Bf.comp Bf.snd (Bf.comp Bf.snd (Bf.comp Bf.snd (Bf.fst)))) fun _ _ => rfl
theorem bY {H : A3} {d n : Nat} {rs rs1 : List BH} {cs : List V} {x : AQ} (h : Ld n H d rs cs (x.A0, x.A7, x.A5, x.BX, x.ED) rs1) : Ld n H d rs cs x rs1 := h
theorem LI {H G : A3} {rs : List BH} {S F : List Nat} {x : AQ} {cs : List V} {j : Nat} (hO : A6 H G rs) (hj : rs[j]? = some (AY S F x cs)) (lv n : Nat) (hn : Nat.ble (An.dep AQ) n = true := by rfl) : ∃ M, Ao lv G (n + 1) (.agg cs) = some (.agg [.int .i64 x.A0, AN lv 0 x.A7, AN lv lv x.A5, AN lv lv x.BX, .int .i64 x.ED], M) := by
 have h := P4 hO hj lv n hn
 have e : AM.Bc lv x = [.int .i64 x.A0, AN lv 0 x.A7, AN lv lv x.A5, AN lv lv x.BX, .int .i64 x.ED] := by
  show ([.int .i64 x.A0, AN lv lv x.A7, AN lv lv x.A5, AN lv lv x.BX, .int .i64 x.ED] : List V) = _
  simp only [AN, IJ]
 rwa [e] at h
structure Am where
 Want : Int
 AO : Int
instance : AM Am := ⟨2, by decide, fun l x => AM.Bc l x.Want ++ (AM.Bc l x.AO), fun x => by simp only [List.length_append, AM.len]; rfl, fun x h => by simp only [CE, AM.GC _ h]; rfl, fun x => by simp only [List.all_append, AM.cell]; rfl⟩
instance : An Am := An.via (fun x => (x.Want, x.AO) : Am → Int × Int) rfl fun _ _ => rfl
instance : Hg Am := ⟨fun h => Hg.inv (α := Int × Int) h⟩
instance : Ju Am := ⟨fun h d => Ju.cl (α := Int × Int) h d⟩
instance : D3 Am := ⟨fun G x => D3.fl (α := Int × Int) G (x.Want, x.AO), fun l x => D3.hJ (α := Int × Int) l (x.Want, x.AO), D3.pos (α := Int × Int)⟩
theorem Oh : Bf Am Int (fun x => x.Want) (fun x y => { x with Want := y }) 0 := Bf.via (α := Am) (f := (fun x => (x.Want, x.AO) : Am → Int × Int)) (hz := rfl) (he := fun _ _ => rfl) (Bf.fst) fun _ _ => rfl
theorem Og : Bf Am Int (fun x => x.AO) (fun x y => { x with AO := y }) 1 := Bf.via (α := Am) (f := (fun x => (x.Want, x.AO) : Am → Int × Int)) (hz := rfl) (he := fun _ _ => rfl) (Bf.snd) fun _ _ => rfl
structure AH where
 State : Int
 Ac : Int
 Ab : List Bool
 Shown : Bool
 Timer : Int
instance : AM AH := ⟨5, by decide, fun l x => AM.Bc l x.State ++ (AM.Bc l x.Ac ++ (AM.Bc l x.Ab ++ (AM.Bc l x.Shown ++ (AM.Bc l x.Timer)))), fun x => by simp only [List.length_append, AM.len]; rfl, fun x h => by simp only [CE, AM.GC _ h]; rfl, fun x => by simp only [List.all_append, AM.cell]; rfl⟩
instance : An AH := An.via (fun x => (x.State, x.Ac, x.Ab, x.Shown, x.Timer) : AH → Int × Int × (List Bool) × Bool × Int) rfl fun _ _ => rfl
instance : Ju AH := ⟨fun h d => Ju.cl (α := Int × Int × (List Bool) × Bool × Int) h d⟩
theorem BN : Bf AH Int (fun x => x.State) (fun x y => { x with State := y }) 0 := Bf.via (α := AH) (f := (fun x => (x.State, x.Ac, x.Ab, x.Shown, x.Timer) : AH → Int × Int × (List Bool) × Bool × Int)) (hz := rfl) (he := fun _ _ => rfl) (Bf.fst) fun _ _ => rfl
theorem Bt : Bf AH Int (fun x => x.Ac) (fun x y => { x with Ac := y }) 1 := Bf.via (α := AH) (f := (fun x => (x.State, x.Ac, x.Ab, x.Shown, x.Timer) : AH → Int × Int × (List Bool) × Bool × Int)) (hz := rfl) (he := fun _ _ => rfl) (Bf.comp Bf.snd (Bf.fst)) fun _ _ => rfl
theorem Cd : Bf AH (List Bool) (fun x => x.Ab) (fun x y => { x with Ab := y }) 2 := Bf.via (α := AH) (f := (fun x => (x.State, x.Ac, x.Ab, x.Shown, x.Timer) : AH → Int × Int × (List Bool) × Bool × Int)) (hz := rfl) (he := fun _ _ => rfl) (Bf.comp Bf.snd (Bf.comp Bf.snd (Bf.fst))) fun _ _ => rfl
theorem Gl : Bf AH Bool (fun x => x.Shown) (fun x y => { x with Shown := y }) 3 := Bf.via (α := AH) (f := (fun x => (x.State, x.Ac, x.Ab, x.Shown, x.Timer) : AH → Int × Int × (List Bool) × Bool × Int)) (hz := rfl) (he := fun _ _ => rfl) (Bf.comp Bf.snd (Bf.comp Bf.snd (Bf.comp Bf.snd (Bf.fst)))) fun _ _ => rfl
theorem Gm : Bf AH Int (fun x => x.Timer) (fun x y => { x with Timer := y }) 4 := Bf.via (α := AH) (f := (fun x => (x.State, x.Ac, x.Ab, x.Shown, x.Timer) : AH → Int × Int × (List Bool) × Bool × Int)) (hz := rfl) (he := fun _ _ => rfl) (Bf.comp Bf.snd (Bf.comp Bf.snd (Bf.comp Bf.snd (Bf.snd)))) fun _ _ => rfl
theorem Vq {H : A3} {d n : Nat} {rs rs1 : List BH} {cs : List V} {x : AH} (h : Ld n H d rs cs (x.State, x.Ac, x.Ab, x.Shown, x.Timer) rs1) : Ld n H d rs cs x rs1 := h
theorem lZ {H G : A3} {rs : List BH} {S F : List Nat} {x : AH} {cs : List V} {j : Nat} (hO : A6 H G rs) (hj : rs[j]? = some (AY S F x cs)) (lv n : Nat) (hn : Nat.ble (An.dep AH) n = true := by rfl) : ∃ M, Ao lv G (n + 1) (.agg cs) = some (.agg [.int .i64 x.State, .int .i64 x.Ac, AN lv 0 x.Ab, .bool x.Shown, .int .i64 x.Timer], M) := by
 have h := P4 hO hj lv n hn
 have e : AM.Bc lv x = [.int .i64 x.State, .int .i64 x.Ac, AN lv 0 x.Ab, .bool x.Shown, .int .i64 x.Timer] := by
  show ([.int .i64 x.State, .int .i64 x.Ac, AN lv lv x.Ab, .bool x.Shown, .int .i64 x.Timer] : List V) = _
  simp only [AN, IJ]
 rwa [e] at h
structure AE where
 Ok : Bool
 C9 : List Bool
 A8 : List Am
 A5 : List AH
instance : AM AE := ⟨4, by decide, fun l x => AM.Bc l x.Ok ++ (AM.Bc l x.C9 ++ (AM.Bc l x.A8 ++ (AM.Bc l x.A5))), fun x => by simp only [List.length_append, AM.len]; rfl, fun x h => by simp only [CE, AM.GC _ h]; rfl, fun x => by simp only [List.all_append, AM.cell]; rfl⟩
abbrev Ai (a b c d e f : Nat) (x : AE) : List V := [.bool x.Ok, AN a b x.C9, AN c d x.A8, AN e f x.A5]
instance : An AE := An.via (fun x => (x.Ok, x.C9, x.A8, x.A5) : AE → Bool × (List Bool) × (List Am) × (List AH)) rfl fun _ _ => rfl
instance : Ju AE := ⟨fun h d => Ju.cl (α := Bool × (List Bool) × (List Am) × (List AH)) h d⟩
theorem Po : Bf AE (List Bool) (fun x => x.C9) (fun x y => { x with C9 := y }) 1 := Bf.via (α := AE) (f := (fun x => (x.Ok, x.C9, x.A8, x.A5) : AE → Bool × (List Bool) × (List Am) × (List AH))) (hz := rfl) (he := fun _ _ => rfl) (Bf.comp Bf.snd (Bf.fst)) fun _ _ => rfl
theorem M4 : Bf AE (List Am) (fun x => x.A8) (fun x y => { x with A8 := y }) 2 := Bf.via (α := AE) (f := (fun x => (x.Ok, x.C9, x.A8, x.A5) : AE → Bool × (List Bool) × (List Am) × (List AH))) (hz := rfl) (he := fun _ _ => rfl) (Bf.comp Bf.snd (Bf.comp Bf.snd (Bf.fst))) fun _ _ => rfl
theorem Of : Bf AE (List AH) (fun x => x.A5) (fun x y => { x with A5 := y }) 3 := Bf.via (α := AE) (f := (fun x => (x.Ok, x.C9, x.A8, x.A5) : AE → Bool × (List Bool) × (List Am) × (List AH))) (hz := rfl) (he := fun _ _ => rfl) (Bf.comp Bf.snd (Bf.comp Bf.snd (Bf.snd))) fun _ _ => rfl
theorem Pb {H : A3} {d n : Nat} {rs rs1 : List BH} {cs : List V} {x : AE} (h : Ld n H d rs cs (x.Ok, x.C9, x.A8, x.A5) rs1) : Ld n H d rs cs x rs1 := h
theorem JI {H G : A3} {rs : List BH} {S F : List Nat} {x : AE} {cs : List V} {j : Nat} (hO : A6 H G rs) (hj : rs[j]? = some (AY S F x cs)) (lv n : Nat) (hn : Nat.ble (An.dep AE) n = true := by rfl) : ∃ M, Ao lv G (n + 1) (.agg cs) = some (.agg [.bool x.Ok, AN lv 0 x.C9, AN lv 0 x.A8, AN lv lv x.A5], M) := by
 have h := P4 hO hj lv n hn
 have e : AM.Bc lv x = [.bool x.Ok, AN lv 0 x.C9, AN lv 0 x.A8, AN lv lv x.A5] := by
  show ([.bool x.Ok, AN lv lv x.C9, AN lv lv x.A8, AN lv lv x.A5] : List V) = _
  simp only [AN, IJ]
 rwa [e] at h
structure BE where
 A5 : List Int
 A0 : List Int
 A8 : List Int
instance : AM BE := ⟨3, by decide, fun l x => AM.Bc l x.A5 ++ (AM.Bc l x.A0 ++ (AM.Bc l x.A8)), fun x => by simp only [List.length_append, AM.len]; rfl, fun x h => by simp only [CE, AM.GC _ h]; rfl, fun x => by simp only [List.all_append, AM.cell]; rfl⟩
instance : An BE := An.via (fun x => (x.A5, x.A0, x.A8) : BE → (List Int) × (List Int) × (List Int)) rfl fun _ _ => rfl
instance : Ju BE := ⟨fun h d => Ju.cl (α := (List Int) × (List Int) × (List Int)) h d⟩
theorem JD : Bf BE (List Int) (fun x => x.A5) (fun x y => { x with A5 := y }) 0 := Bf.via (α := BE) (f := (fun x => (x.A5, x.A0, x.A8) : BE → (List Int) × (List Int) × (List Int))) (hz := rfl) (he := fun _ _ => rfl) (Bf.fst) fun _ _ => rfl
theorem Gn : Bf BE (List Int) (fun x => x.A0) (fun x y => { x with A0 := y }) 1 := Bf.via (α := BE) (f := (fun x => (x.A5, x.A0, x.A8) : BE → (List Int) × (List Int) × (List Int))) (hz := rfl) (he := fun _ _ => rfl) (Bf.comp Bf.snd (Bf.fst)) fun _ _ => rfl
theorem M5 : Bf BE (List Int) (fun x => x.A8) (fun x y => { x with A8 := y }) 2 := Bf.via (α := BE) (f := (fun x => (x.A5, x.A0, x.A8) : BE → (List Int) × (List Int) × (List Int))) (hz := rfl) (he := fun _ _ => rfl) (Bf.comp Bf.snd (Bf.snd)) fun _ _ => rfl
theorem TU {H : A3} {d n : Nat} {rs rs1 : List BH} {cs : List V} {x : BE} (h : Ld n H d rs cs (x.A5, x.A0, x.A8) rs1) : Ld n H d rs cs x rs1 := h
theorem JJ {H G : A3} {rs : List BH} {S F : List Nat} {x : BE} {cs : List V} {j : Nat} (hO : A6 H G rs) (hj : rs[j]? = some (AY S F x cs)) (lv n : Nat) (hn : Nat.ble (An.dep BE) n = true := by rfl) : ∃ M, Ao lv G (n + 1) (.agg cs) = some (.agg [AN lv 0 x.A5, AN lv 0 x.A0, AN lv 0 x.A8], M) := by
 have h := P4 hO hj lv n hn
 have e : AM.Bc lv x = [AN lv 0 x.A5, AN lv 0 x.A0, AN lv 0 x.A8] := by
  show ([AN lv lv x.A5, AN lv lv x.A0, AN lv lv x.A8] : List V) = _
  simp only [AN, IJ]
 rwa [e] at h
structure Be where
 Code : Int
 At : Int
instance : AM Be := ⟨2, by decide, fun l x => AM.Bc l x.Code ++ (AM.Bc l x.At), fun x => by simp only [List.length_append, AM.len]; rfl, fun x h => by simp only [CE, AM.GC _ h]; rfl, fun x => by simp only [List.all_append, AM.cell]; rfl⟩
instance : An Be := An.via (fun x => (x.Code, x.At) : Be → Int × Int) rfl fun _ _ => rfl
instance : Hg Be := ⟨fun h => Hg.inv (α := Int × Int) h⟩
instance : Ju Be := ⟨fun h d => Ju.cl (α := Int × Int) h d⟩
instance : D3 Be := ⟨fun G x => D3.fl (α := Int × Int) G (x.Code, x.At), fun l x => D3.hJ (α := Int × Int) l (x.Code, x.At), D3.pos (α := Int × Int)⟩
theorem TP : B3 Tryz.prog 26 = some 5 := by rfl
theorem TQ : B3 Tryz.prog 31 = some 4 := by rfl
theorem Ym : Cp Tryz.prog 26 = some true := by rfl
theorem Yp : AW Tryz.prog 26 1 = some 1 := by rfl
theorem BC : Cp Tryz.prog 22 = some false := by rfl
theorem DE : HY Tryz.prog 22 = some false := by rfl
theorem Yq : AW Tryz.prog 26 2 = some 2 := by rfl
theorem kY : Cp Tryz.prog 23 = some false := by rfl
theorem bW : HY Tryz.prog 23 = some false := by rfl
theorem lG : Ax Tryz.prog 23 = some 107 := by rfl
theorem Qf : B3 Tryz.prog 107 = some 5 := by rfl
theorem dB : Cp Tryz.prog 107 = some true := by rfl
theorem Vk : AW Tryz.prog 107 0 = some 0 := by rfl
theorem Vl : AW Tryz.prog 107 1 = some 1 := by rfl
theorem Vi : Cp Tryz.prog 105 = some false := by rfl
theorem Yv : HY Tryz.prog 105 = some false := by rfl
theorem Vm : AW Tryz.prog 107 2 = some 2 := by rfl
theorem Vn : AW Tryz.prog 107 3 = some 3 := by rfl
theorem Vo : AW Tryz.prog 107 4 = some 4 := by rfl
theorem Yr : AW Tryz.prog 26 3 = some 3 := by rfl
theorem It : Cp Tryz.prog 24 = some false := by rfl
theorem MX : HY Tryz.prog 24 = some false := by rfl
theorem Iu : Ax Tryz.prog 24 = some 27 := by rfl
theorem GI : B3 Tryz.prog 27 = some 1 := by rfl
theorem CC : Cp Tryz.prog 27 = some false := by rfl
theorem Hd : HY Tryz.prog 27 = some false := by rfl
theorem Yn : Cp Tryz.prog 31 = some true := by rfl
theorem Ys : AW Tryz.prog 31 1 = some 1 := by rfl
theorem Yt : AW Tryz.prog 31 2 = some 2 := by rfl
theorem kZ : Cp Tryz.prog 28 = some false := by rfl
theorem gF : HY Tryz.prog 28 = some false := by rfl
theorem Yu : AW Tryz.prog 31 3 = some 3 := by rfl
theorem lA : Cp Tryz.prog 29 = some false := by rfl
theorem bX : HY Tryz.prog 29 = some false := by rfl
theorem lH : Ax Tryz.prog 29 = some 109 := by rfl
theorem Qg : B3 Tryz.prog 109 = some 5 := by rfl
theorem dC : Cp Tryz.prog 109 = some true := by rfl
theorem Vp : AW Tryz.prog 109 2 = some 2 := by rfl
theorem CH : B3 Tryz.prog 37 = some 5 := by rfl
theorem fZ : BI Tryz.prog 37 = some [.int .i64 0, (.tl 0 []), (.tl 0 []), (.tl 0 []), .int .i64 0] := by rfl
theorem gC : AW Tryz.prog 26 0 = some 0 := by rfl
theorem BW : Cp Tryz.prog 3 = some false := by rfl
theorem EO : AW Tryz.prog 37 0 = some 0 := by rfl
theorem DS : B3 Tryz.prog 3 = some 1 := by rfl
theorem C8 : Ax Tryz.prog 22 = some 3 := by rfl
theorem Wx : C3 Tryz.prog 3 = some 8 := by rfl
theorem Mx : BI Tryz.prog 3 = some [.int .i64 0] := by rfl
theorem Dg : AW Tryz.prog 37 1 = some 1 := by rfl
theorem LU : B3 Tryz.prog 22 = some 1 := by rfl
theorem Ex : Ax Tryz.prog 35 = some 115 := by rfl
theorem B1 : B3 Tryz.prog 115 = some 5 := by rfl
theorem lC : C3 Tryz.prog 115 = some 120 := by rfl
theorem Ir : BI Tryz.prog 115 = some [(.tl 0 []), (.tl 0 []), (.tl 0 []), (.tl 0 []), (.tl 0 [])] := by rfl
theorem BL : AW Tryz.prog 115 0 = some 0 := by rfl
theorem Dl : Ax Tryz.prog 113 = some 122 := by rfl
theorem BD : B3 Tryz.prog 122 = some 2 := by rfl
theorem TO : C3 Tryz.prog 122 = some 16 := by rfl
theorem FZ : BI Tryz.prog 122 = some [.int .i64 0, .int .i64 0] := by rfl
theorem lF : Ax Tryz.prog 105 = some 151 := by rfl
theorem Yx : B3 Tryz.prog 151 = some 2 := by rfl
theorem kX : Cp Tryz.prog 151 = some true := by rfl
theorem bU : AW Tryz.prog 151 0 = some 0 := by rfl
theorem CR : AW Tryz.prog 122 0 = some 0 := by rfl
theorem bV : AW Tryz.prog 151 1 = some 1 := by rfl
theorem EC : AW Tryz.prog 122 1 = some 1 := by rfl
theorem GA : Cp Tryz.prog 122 = some true := by rfl
theorem EB : AW Tryz.prog 115 1 = some 1 := by rfl
theorem Qh : B3 Tryz.prog 113 = some 1 := by rfl
theorem EX : AW Tryz.prog 115 2 = some 2 := by rfl
theorem DY : AW Tryz.prog 115 3 = some 3 := by rfl
theorem Jt : AW Tryz.prog 115 4 = some 4 := by rfl
theorem FB : Cp Tryz.prog 115 = some true := by rfl
theorem Bk : AW Tryz.prog 37 2 = some 2 := by rfl
theorem nN : B3 Tryz.prog 35 = some 1 := by rfl
theorem nI : C3 Tryz.prog 27 = some 24 := by rfl
theorem nH : BI Tryz.prog 27 = some [(.tl 0 [])] := by rfl
theorem Cn : Ax Tryz.prog 27 = some 4 := by rfl
theorem FU : B3 Tryz.prog 4 = some 1 := by rfl
theorem gA : C3 Tryz.prog 4 = some 1 := by rfl
theorem dA : BI Tryz.prog 4 = some [.bool false] := by rfl
theorem Fv : Cp Tryz.prog 4 = some false := by rfl
theorem EP : AW Tryz.prog 37 3 = some 3 := by rfl
theorem nM : B3 Tryz.prog 24 = some 1 := by rfl
theorem gD : AW Tryz.prog 26 4 = some 4 := by rfl
theorem KY : AW Tryz.prog 37 4 = some 4 := by rfl
theorem FG : Cp Tryz.prog 37 = some true := by rfl
theorem C0 : B3 Tryz.prog 42 = some 4 := by rfl
theorem SC : BI Tryz.prog 42 = some [.bool false, (.tl 0 []), (.tl 0 []), (.tl 0 [])] := by rfl
theorem gE : AW Tryz.prog 31 0 = some 0 := by rfl
theorem MW : AW Tryz.prog 42 0 = some 0 := by rfl
theorem Co : AW Tryz.prog 42 1 = some 1 := by rfl
theorem Iv : Ax Tryz.prog 39 = some 98 := by rfl
theorem EE : B3 Tryz.prog 98 = some 2 := by rfl
theorem gB : C3 Tryz.prog 98 = some 16 := by rfl
theorem TN : BI Tryz.prog 98 = some [.int .i64 0, .int .i64 0] := by rfl
theorem nJ : Ax Tryz.prog 28 = some 118 := by rfl
theorem Yw : B3 Tryz.prog 118 = some 2 := by rfl
theorem kW : Cp Tryz.prog 118 = some true := by rfl
theorem bR : AW Tryz.prog 118 0 = some 0 := by rfl
theorem Ig : AW Tryz.prog 98 0 = some 0 := by rfl
theorem bS : AW Tryz.prog 118 1 = some 1 := by rfl
theorem KZ : AW Tryz.prog 98 1 = some 1 := by rfl
theorem SD : Cp Tryz.prog 98 = some true := by rfl
theorem Dh : AW Tryz.prog 42 2 = some 2 := by rfl
theorem gG : B3 Tryz.prog 39 = some 1 := by rfl
theorem EN : Ax Tryz.prog 40 = some 101 := by rfl
theorem Ay : B3 Tryz.prog 101 = some 5 := by rfl
theorem Yo : C3 Tryz.prog 101 = some 56 := by rfl
theorem FT : BI Tryz.prog 101 = some [.int .i64 0, .int .i64 0, (.tl 0 []), .bool false, .int .i64 0] := by rfl
theorem bN : AW Tryz.prog 109 0 = some 0 := by rfl
theorem B9 : AW Tryz.prog 101 0 = some 0 := by rfl
theorem bO : AW Tryz.prog 109 1 = some 1 := by rfl
theorem C1 : AW Tryz.prog 101 1 = some 1 := by rfl
theorem C6 : AW Tryz.prog 101 2 = some 2 := by rfl
theorem bP : AW Tryz.prog 109 3 = some 3 := by rfl
theorem Dv : AW Tryz.prog 101 3 = some 3 := by rfl
theorem bQ : AW Tryz.prog 109 4 = some 4 := by rfl
theorem EA : AW Tryz.prog 101 4 = some 4 := by rfl
theorem G9 : Cp Tryz.prog 101 = some true := by rfl
theorem Bl : AW Tryz.prog 42 3 = some 3 := by rfl
theorem gH : B3 Tryz.prog 40 = some 1 := by rfl
theorem Ew : Cp Tryz.prog 42 = some true := by rfl
theorem Cy : B3 Tryz.prog 52 = some 3 := by rfl
theorem KX : BI Tryz.prog 52 = some [(.tl 0 []), (.tl 0 []), (.tl 0 [])] := by rfl
theorem D2 : B3 Tryz.prog 136 = some 2 := by rfl
theorem Fa : BI Tryz.prog 136 = some [.int .i64 0, .int .i64 0] := by rfl
theorem Du : Cp Tryz.prog 35 = some false := by rfl
theorem I2 : HY Tryz.prog 35 = some false := by rfl
theorem Gx : El Tryz.prog 136 = some [(0, 1), (1, 1)] := by rfl
theorem HQ : Cp Tryz.prog 136 = some true := by rfl
theorem Df : Cp Tryz.prog 113 = some false := by rfl
theorem FC : HY Tryz.prog 113 = some false := by rfl
theorem bT : AW Tryz.prog 136 0 = some 0 := by rfl
theorem JX : Cp Tryz.prog 39 = some false := by rfl
theorem Pa : HY Tryz.prog 39 = some false := by rfl
theorem E6 : Cp Tryz.prog 40 = some false := by rfl
theorem Ih : HY Tryz.prog 40 = some false := by rfl
theorem nK : El Tryz.prog 42 = some [(0, 1), (1, 1), (2, 1), (3, 1)] := by rfl
theorem Vj : Ax Tryz.prog 128 = some 113 := by rfl
theorem cZ : BI Tryz.prog 113 = some [(.tl 0 [])] := by rfl
theorem dI : HY Tryz.prog 128 = some false := by rfl
theorem dF : Ax Tryz.prog 146 = some 22 := by rfl
theorem nG : BI Tryz.prog 22 = some [(.tl 0 [])] := by rfl
theorem lL : HY Tryz.prog 146 = some false := by rfl
theorem dH : El Tryz.prog 101 = some [(0, 1), (1, 1), (2, 1), (3, 1), (4, 1)] := by rfl
theorem lK : El Tryz.prog 52 = some [(0, 1), (1, 1), (2, 1)] := by rfl
theorem Ib : Cp Tryz.prog 52 = some true := by rfl
theorem Ic : AW Tryz.prog 52 0 = some 0 := by rfl
theorem Ie : AW Tryz.prog 52 1 = some 1 := by rfl
theorem HZ : AW Tryz.prog 52 2 = some 2 := by rfl
theorem dD : Tryz.f114.body.bind FP = some 113 := by rfl
theorem dG : Px Tryz.prog 156 = some (.one .i, 4) := by decide +kernel
theorem oJ : Pg Tryz.prog 4 = some (Iw.pv (false : Bool)) := by rfl
theorem lI : Im Tryz.prog 136 = some [.i, .i] := by decide +kernel
theorem dE : Tryz.f115.body.bind FP = some 27 := by rfl
theorem lD : Tryz.f116.body.bind FP = some 39 := by rfl
theorem lE : Tryz.f117.body.bind FP = some 40 := by rfl
theorem nL : El Tryz.prog 98 = some [(0, 1), (1, 1)] := by rfl
theorem lJ : Im Tryz.prog 98 = some [.i, .i] := by decide +kernel
def cJ (aA0 : List Int) (aLeft1 : Int) : Option Int :=
 (bif decide ((BV (aLeft1 - (aA0.length : Int))) < (0:Int)) then some (-1:Int) else some (BV (aLeft1 - (aA0.length : Int))))
theorem NJ {aA0 : List Int} {aLeft1 : Int} {r : Int} {l1 : Nat} (hk : cJ aA0 aLeft1 = some r) (hlk : 0 < lk.length := by simp) : Al Tryz.prog hh 30 [AN l1 0 aA0, iv aLeft1] H lk = some (iv r, H) := by
 refine AI Tryz.func30 rfl Tryz.ntmps30 Tryz.results30 rfl rfl fun hO => ?_
 unfold cJ at hk
 refine A1 (A4 (pA (.int _ _) (pE (gn (A1 (A4 ?_))))))
 refine pM (.int _ _) ?_
 refine pM (.lit _ _ _) ?_
 refine Ah DE ?_
 refine AX ?_
 refine pA (.int _ _) (pE (gn (A1 (A1 (A4 ?_)))))
 refine pM (.int _ _) ?_
 refine AX (pE (gn (Aq hk (fun hk => ?_) (fun hk => ?_))))
 ·refine A1 (A4 (pA (.int _ _) (pE (gn (Av (gr ?_))))))
  cases hk; exact AT hO
 ·refine As (gn (A1 (A4 (pM (.int _ _) ?_))))
  refine pA (.int _ _) (pE (gn (Av ?_)))
  cases hk; exact AT hO
def WD (aA0 : List Aa) (aLeft1 : Int) : Option Int :=
 (bif decide ((BV (aLeft1 - (aA0.length : Int))) < (0:Int)) then some (-1:Int) else some (BV (aLeft1 - (aA0.length : Int))))
theorem SU {aA0 : List Aa} {aLeft1 : Int} {r : Int} {l1 : Nat} (hk : WD aA0 aLeft1 = some r) (hlk : 0 < lk.length := by simp) : Al Tryz.prog hh 103 [AN l1 0 aA0, iv aLeft1] H lk = some (iv r, H) := by
 refine AI Tryz.func103 rfl Tryz.ntmps103 Tryz.results103 rfl rfl fun hO => ?_
 unfold WD at hk
 refine A1 (A4 (pA (.int _ _) (pE (gn (A1 (A4 ?_))))))
 refine pM (.int _ _) ?_
 refine pM (.lit _ _ _) ?_
 refine Ah Yv ?_
 refine AX ?_
 refine pA (.int _ _) (pE (gn (A1 (A1 (A4 ?_)))))
 refine pM (.int _ _) ?_
 refine AX (pE (gn (Aq hk (fun hk => ?_) (fun hk => ?_))))
 ·refine A1 (A4 (pA (.int _ _) (pE (gn (Av (gr ?_))))))
  cases hk; exact AT hO
 ·refine As (gn (A1 (A4 (pM (.int _ _) ?_))))
  refine pA (.int _ _) (pE (gn (Av ?_)))
  cases hk; exact AT hO
def gU (aA0 : Bu) (aLeft1 : Int) : Option Int :=
 ((cJ aA0.A0 aLeft1).bind fun v2 => (bif decide (v2 < (0:Int)) then some (-1:Int) else ((WD aA0.AO v2).bind fun v3 => (bif decide (v3 < (0:Int)) then some (-1:Int) else ((WD aA0.AB v3).bind fun v4 => (bif decide (v4 < (0:Int)) then some (-1:Int) else ((cJ aA0.BY v4).bind fun v5 => (bif decide (v5 < (0:Int)) then some (-1:Int) else ((cJ aA0.DF v5).bind fun v6 => (bif decide (v6 < (0:Int)) then some (-1:Int) else some v6))))))))))
theorem Zz {aA0 : Bu} {aLeft1 : Int} {r : Int} {l1 l2 l3 l4 l5 : Nat} (hk : gU aA0 aLeft1 = some r) (hlk : 0 < lk.length := by simp) : Al Tryz.prog hh 70 [.agg (Cq l1 0 l2 0 l3 0 l4 0 l5 0 aA0), iv aLeft1] H lk = some (iv r, H) := by
 refine AI Tryz.func70 rfl Tryz.ntmps70 Tryz.results70 rfl rfl fun hO => ?_
 unfold gU at hk
 refine A1 (A4 (Ba (cs := [_, _, _, _, _]) hO Qf (fun b1 G hO => ?_)))
 refine pA (.int _ _) (pE (gn (A1 (A4 ?_))))
 refine Au Vk hO 0 (.lit _ _ _) BC ?_
 refine pM (.int _ _) (bk hk fun v2 hv2 hk => ?_)
 refine AR (fun _ => NJ hv2) ?_
 refine pA (.int _ _) (pE (gn (A1 (A1 (A4 ?_)))))
 refine pM (.int _ _) ?_
 refine AX (pE (gn (Aq hk (fun hk => ?_) (fun hk => ?_))))
 ·refine A1 (A4 (pA (.int _ _) (pE (gn (Av (gr ?_))))))
  cases hk; exact AT hO
 ·refine As (gn (A1 (A4 (Au Vl hO 0 (.lit _ _ _) Vi ?_))))
  refine pM (.int _ _) (bk hk fun v3 hv3 hk => ?_)
  refine AR (fun _ => SU hv3) ?_
  refine pA (.int _ _) (pE (gn (A1 (A1 (A4 ?_)))))
  refine pM (.int _ _) ?_
  refine AX (pE (gn (Aq hk (fun hk => ?_) (fun hk => ?_))))
  ·refine A1 (A4 (pA (.int _ _) (pE (gn (Av (gr ?_))))))
   cases hk; exact AT hO
  ·refine As (gn (A1 (A4 (Au Vm hO 0 (.lit _ _ _) Vi ?_))))
   refine pM (.int _ _) (bk hk fun v4 hv4 hk => ?_)
   refine AR (fun _ => SU hv4) ?_
   refine pA (.int _ _) (pE (gn (A1 (A1 (A4 ?_)))))
   refine pM (.int _ _) ?_
   refine AX (pE (gn (Aq hk (fun hk => ?_) (fun hk => ?_))))
   ·refine A1 (A4 (pA (.int _ _) (pE (gn (Av (gr ?_))))))
    cases hk; exact AT hO
   ·refine As (gn (A1 (A4 (Au Vn hO 0 (.lit _ _ _) BC ?_))))
    refine pM (.int _ _) (bk hk fun v5 hv5 hk => ?_)
    refine AR (fun _ => NJ hv5) ?_
    refine pA (.int _ _) (pE (gn (A1 (A1 (A4 ?_)))))
    refine pM (.int _ _) ?_
    refine AX (pE (gn (Aq hk (fun hk => ?_) (fun hk => ?_))))
    ·refine A1 (A4 (pA (.int _ _) (pE (gn (Av (gr ?_))))))
     cases hk; exact AT hO
    ·refine As (gn (A1 (A4 (Au Vo hO 0 (.lit _ _ _) BC ?_))))
     refine pM (.int _ _) (bk hk fun v6 hv6 hk => ?_)
     refine AR (fun _ => NJ hv6) ?_
     refine pA (.int _ _) (pE (gn (A1 (A1 (A4 ?_)))))
     refine pM (.int _ _) ?_
     refine AX (pE (gn (Aq hk (fun hk => ?_) (fun hk => ?_))))
     ·refine A1 (A4 (pA (.int _ _) (pE (gn (Av (gr ?_))))))
      cases hk; exact AT hO
     ·refine As (gn (A1 (A4 (pM (.int _ _) ?_))))
      refine pA (.int _ _) (pE (gn (Av ?_)))
      cases hk; exact AT hO
def R9 (aA0 : List Bu) : (Int × Int) → Option ((Int × Int) ⊕ Int) := fun s =>
 (bif decide (s.2 < (aA0.length : Int)) then ((AL aA0 s.2).bind fun c3 => ((gU c3 s.1).bind fun v4 => (bif decide (v4 < (0:Int)) then ((some (-1:Int)).map Sum.inr) else some (.inl (v4, BV (s.2 + (1:Int))))))) else ((some s.1).map Sum.inr))
def iU (aA0 : List Bu) (aLeft1 : Int) : Option Int :=
 (bif decide ((BV (aLeft1 - (aA0.length : Int))) < (0:Int)) then some (-1:Int) else (AJ (R9 aA0) (BV (aLeft1 - (aA0.length : Int)), (0:Int))))
theorem Zc {aA0 : List Bu} {aLeft1 : Int} {r : Int} {l1 m2 : Nat} (hk : iU aA0 aLeft1 = some r) (hlk : 0 < lk.length := by simp) : Al Tryz.prog hh 31 [AN l1 m2 aA0, iv aLeft1] H lk = some (iv r, H) := by
 refine AI Tryz.func31 rfl Tryz.ntmps31 Tryz.results31 rfl rfl fun hO => ?_
 unfold iU at hk
 refine A1 (A4 (pA (.int _ _) (pE (gn (A1 (A4 ?_))))))
 refine pM (.int _ _) ?_
 refine pM (.lit _ _ _) ?_
 refine Ah bW ?_
 refine AX ?_
 refine pA (.int _ _) (pE (gn (A1 (A1 (A4 ?_)))))
 refine pM (.int _ _) ?_
 refine AX (pE (gn (Aq hk (fun hk => ?_) (fun hk => ?_))))
 ·refine A1 (A4 (pA (.int _ _) (pE (gn (Av (gr ?_))))))
  cases hk; exact AT hO
 ·refine As (gn (A1 (A1 (A4 (pA (.int _ _) (pE (gn (BQ ?_))))))))
  refine AD (F := R9 aA0) (fun s S' => ∃ (J : Nat → V) (G : A3), A6 H G [] ∧ S' = ⟨CO [(0, AN l1 m2 aA0), (1, iv s.1), (5, iv s.2)] J, G⟩) hk ⟨_, _, hO, sh⟩ ?_
  rintro ⟨x1, x2⟩ _ y1 ⟨J, G, hO, rfl⟩ hk hx1
  refine A1 (A1 (A4 (pM (.int _ _) ?_)))
  refine pM (.lit _ _ _) ?_
  refine Ah bW ?_
  refine AX (pE (gn (Aq hk (fun hk => ?_) (fun hk => ?_))))
  ·refine As (gn (A1 (BQ (A1 (A4 (pM (.lit _ _ _) ?_))))))
   refine pM (.int _ _) (bk hk fun c3 hc3 hk => ?_)
   refine pX hc3 lG Qf ?_
   refine By (.agg [_, _, _, _, _]) (GG (lm := m2) (off := 0) hc3 dB Qf) ?_
   refine pM (.int _ _) (bk hk fun v4 hv4 hk => ?_)
   refine AR (fun _ => Zz hv4) ?_
   refine pA (.int _ _) (pE (gn (A1 (A4 ?_))))
   refine pM (.int _ _) ?_
   refine AX (pE (gn (Aq hk (fun hk => ?_) (fun hk => ?_))))
   ·refine A1 (A4 (pA (.int _ _) (pE (gn (Av (br (gr (gr (br (gr (have hk := lx hx1 hk; ?_)))))))))))
    cases hk; exact AT hO
   ·refine As (bn (gn (A4 (pM (.int _ _) ?_))))
    refine AX ?_
    refine pA (.int _ _) (pE (gn ?_))
    cases hk; exact ⟨_, rfl, _, _, hO, sh⟩
  ·refine D6 (ge (ge (be (gn (have hk := lx hx1 hk; A1 (A4 (pM (.int _ _) ?_)))))))
   refine pA (.int _ _) (pE (gn (Av ?_)))
   cases hk; exact AT hO
def cK (aA0 : List Bool) (aLeft1 : Int) : Option Int :=
 (bif decide ((BV (aLeft1 - (aA0.length : Int))) < (0:Int)) then some (-1:Int) else some (BV (aLeft1 - (aA0.length : Int))))
theorem RB {aA0 : List Bool} {aLeft1 : Int} {r : Int} {l1 : Nat} (hk : cK aA0 aLeft1 = some r) (hlk : 0 < lk.length := by simp) : Al Tryz.prog hh 33 [AN l1 0 aA0, iv aLeft1] H lk = some (iv r, H) := by
 refine AI Tryz.func33 rfl Tryz.ntmps33 Tryz.results33 rfl rfl fun hO => ?_
 unfold cK at hk
 refine A1 (A4 (pA (.int _ _) (pE (gn (A1 (A4 ?_))))))
 refine pM (.int _ _) ?_
 refine pM (.lit _ _ _) ?_
 refine Ah Hd ?_
 refine AX ?_
 refine pA (.int _ _) (pE (gn (A1 (A1 (A4 ?_)))))
 refine pM (.int _ _) ?_
 refine AX (pE (gn (Aq hk (fun hk => ?_) (fun hk => ?_))))
 ·refine A1 (A4 (pA (.int _ _) (pE (gn (Av (gr ?_))))))
  cases hk; exact AT hO
 ·refine As (gn (A1 (A4 (pM (.int _ _) ?_))))
  refine pA (.int _ _) (pE (gn (Av ?_)))
  cases hk; exact AT hO
def RA (aA0 : List (List Bool)) : (Int × Int) → Option ((Int × Int) ⊕ Int) := fun s =>
 (bif decide (s.2 < (aA0.length : Int)) then ((AL aA0 s.2).bind fun c3 => ((cK c3 s.1).bind fun v4 => (bif decide (v4 < (0:Int)) then ((some (-1:Int)).map Sum.inr) else some (.inl (v4, BV (s.2 + (1:Int))))))) else ((some s.1).map Sum.inr))
def iV (aA0 : List (List Bool)) (aLeft1 : Int) : Option Int :=
 (bif decide ((BV (aLeft1 - (aA0.length : Int))) < (0:Int)) then some (-1:Int) else (AJ (RA aA0) (BV (aLeft1 - (aA0.length : Int)), (0:Int))))
theorem Zd {aA0 : List (List Bool)} {aLeft1 : Int} {r : Int} {l1 m2 : Nat} (hk : iV aA0 aLeft1 = some r) (hlk : 0 < lk.length := by simp) : Al Tryz.prog hh 32 [AN l1 m2 aA0, iv aLeft1] H lk = some (iv r, H) := by
 refine AI Tryz.func32 rfl Tryz.ntmps32 Tryz.results32 rfl rfl fun hO => ?_
 unfold iV at hk
 refine A1 (A4 (pA (.int _ _) (pE (gn (A1 (A4 ?_))))))
 refine pM (.int _ _) ?_
 refine pM (.lit _ _ _) ?_
 refine Ah MX ?_
 refine AX ?_
 refine pA (.int _ _) (pE (gn (A1 (A1 (A4 ?_)))))
 refine pM (.int _ _) ?_
 refine AX (pE (gn (Aq hk (fun hk => ?_) (fun hk => ?_))))
 ·refine A1 (A4 (pA (.int _ _) (pE (gn (Av (gr ?_))))))
  cases hk; exact AT hO
 ·refine As (gn (A1 (A1 (A4 (pA (.int _ _) (pE (gn (BQ ?_))))))))
  refine AD (F := RA aA0) (fun s S' => ∃ (J : Nat → V) (G : A3), A6 H G [] ∧ S' = ⟨CO [(0, AN l1 m2 aA0), (1, iv s.1), (5, iv s.2)] J, G⟩) hk ⟨_, _, hO, sh⟩ ?_
  rintro ⟨x1, x2⟩ _ y1 ⟨J, G, hO, rfl⟩ hk hx1
  refine A1 (A1 (A4 (pM (.int _ _) ?_)))
  refine pM (.lit _ _ _) ?_
  refine Ah MX ?_
  refine AX (pE (gn (Aq hk (fun hk => ?_) (fun hk => ?_))))
  ·refine As (gn (A1 (BQ (A1 (A4 (pM (.lit _ _ _) ?_))))))
   refine pM (.int _ _) (bk hk fun c3 hc3 hk => ?_)
   refine pX hc3 Iu GI ?_
   refine By (.lit _ _ _) (D7 (lm := m2) (off := 0) hc3 CC) ?_
   refine pM (.int _ _) (bk hk fun v4 hv4 hk => ?_)
   refine AR (fun _ => RB hv4) ?_
   refine pA (.int _ _) (pE (gn (A1 (A4 ?_))))
   refine pM (.int _ _) ?_
   refine AX (pE (gn (Aq hk (fun hk => ?_) (fun hk => ?_))))
   ·refine A1 (A4 (pA (.int _ _) (pE (gn (Av (br (gr (gr (br (gr (have hk := lx hx1 hk; ?_)))))))))))
    cases hk; exact AT hO
   ·refine As (bn (gn (A4 (pM (.int _ _) ?_))))
    refine AX ?_
    refine pA (.int _ _) (pE (gn ?_))
    cases hk; exact ⟨_, rfl, _, _, hO, sh⟩
  ·refine D6 (ge (ge (be (gn (have hk := lx hx1 hk; A1 (A4 (pM (.int _ _) ?_)))))))
   refine pA (.int _ _) (pE (gn (Av ?_)))
   cases hk; exact AT hO
def f6 (aA0 : AQ) (aLeft1 : Int) : Option Int :=
 ((cJ aA0.A7 aLeft1).bind fun v2 => (bif decide (v2 < (0:Int)) then some (-1:Int) else ((iU aA0.A5 v2).bind fun v3 => (bif decide (v3 < (0:Int)) then some (-1:Int) else ((iV aA0.BX v3).bind fun v4 => (bif decide (v4 < (0:Int)) then some (-1:Int) else some v4))))))
theorem eN {aA0 : AQ} {aLeft1 : Int} {r : Int} {l1 l2 m3 l4 m5 : Nat} (hk : f6 aA0 aLeft1 = some r) (hlk : 0 < lk.length := by simp) : Al Tryz.prog hh 6 [.agg (Aj l1 0 l2 m3 l4 m5 aA0), iv aLeft1] H lk = some (iv r, H) := by
 refine AI Tryz.func6 rfl Tryz.ntmps6 Tryz.results6 rfl rfl fun hO => ?_
 unfold f6 at hk
 refine A1 (A4 (Ba (cs := [_, _, _, _, _]) hO TP (fun b1 G hO => ?_)))
 refine pA (.int _ _) (pE (gn (A1 (A4 ?_))))
 refine Au Yp hO 0 (.lit _ _ _) BC ?_
 refine pM (.int _ _) (bk hk fun v2 hv2 hk => ?_)
 refine AR (fun _ => NJ hv2) ?_
 refine pA (.int _ _) (pE (gn (A1 (A1 (A4 ?_)))))
 refine pM (.int _ _) ?_
 refine AX (pE (gn (Aq hk (fun hk => ?_) (fun hk => ?_))))
 ·refine A1 (A4 (pA (.int _ _) (pE (gn (Av (gr ?_))))))
  cases hk; exact AT hO
 ·refine As (gn (A1 (A4 (Au Yq hO 0 (.lit _ _ _) kY ?_))))
  refine pM (.int _ _) (bk hk fun v3 hv3 hk => ?_)
  refine AR (fun _ => Zc hv3) ?_
  refine pA (.int _ _) (pE (gn (A1 (A1 (A4 ?_)))))
  refine pM (.int _ _) ?_
  refine AX (pE (gn (Aq hk (fun hk => ?_) (fun hk => ?_))))
  ·refine A1 (A4 (pA (.int _ _) (pE (gn (Av (gr ?_))))))
   cases hk; exact AT hO
  ·refine As (gn (A1 (A4 (Au Yr hO 0 (.lit _ _ _) It ?_))))
   refine pM (.int _ _) (bk hk fun v4 hv4 hk => ?_)
   refine AR (fun _ => Zd hv4) ?_
   refine pA (.int _ _) (pE (gn (A1 (A1 (A4 ?_)))))
   refine pM (.int _ _) ?_
   refine AX (pE (gn (Aq hk (fun hk => ?_) (fun hk => ?_))))
   ·refine A1 (A4 (pA (.int _ _) (pE (gn (Av (gr ?_))))))
    cases hk; exact AT hO
   ·refine As (gn (A1 (A4 (pM (.int _ _) ?_))))
    refine pA (.int _ _) (pE (gn (Av ?_)))
    cases hk; exact AT hO
def iW (aA0 : List Am) (aLeft1 : Int) : Option Int :=
 (bif decide ((BV (aLeft1 - (aA0.length : Int))) < (0:Int)) then some (-1:Int) else some (BV (aLeft1 - (aA0.length : Int))))
theorem Ze {aA0 : List Am} {aLeft1 : Int} {r : Int} {l1 : Nat} (hk : iW aA0 aLeft1 = some r) (hlk : 0 < lk.length := by simp) : Al Tryz.prog hh 34 [AN l1 0 aA0, iv aLeft1] H lk = some (iv r, H) := by
 refine AI Tryz.func34 rfl Tryz.ntmps34 Tryz.results34 rfl rfl fun hO => ?_
 unfold iW at hk
 refine A1 (A4 (pA (.int _ _) (pE (gn (A1 (A4 ?_))))))
 refine pM (.int _ _) ?_
 refine pM (.lit _ _ _) ?_
 refine Ah gF ?_
 refine AX ?_
 refine pA (.int _ _) (pE (gn (A1 (A1 (A4 ?_)))))
 refine pM (.int _ _) ?_
 refine AX (pE (gn (Aq hk (fun hk => ?_) (fun hk => ?_))))
 ·refine A1 (A4 (pA (.int _ _) (pE (gn (Av (gr ?_))))))
  cases hk; exact AT hO
 ·refine As (gn (A1 (A4 (pM (.int _ _) ?_))))
  refine pA (.int _ _) (pE (gn (Av ?_)))
  cases hk; exact AT hO
def gV (aA0 : AH) (aLeft1 : Int) : Option Int :=
 ((cK aA0.Ab aLeft1).bind fun v2 => (bif decide (v2 < (0:Int)) then some (-1:Int) else some v2))
theorem a7 {aA0 : AH} {aLeft1 : Int} {r : Int} {l1 : Nat} (hk : gV aA0 aLeft1 = some r) (hlk : 0 < lk.length := by simp) : Al Tryz.prog hh 71 [.agg [iv aA0.State, iv aA0.Ac, AN l1 0 aA0.Ab, .bool aA0.Shown, iv aA0.Timer], iv aLeft1] H lk = some (iv r, H) := by
 refine AI Tryz.func71 rfl Tryz.ntmps71 Tryz.results71 rfl rfl fun hO => ?_
 unfold gV at hk
 refine A1 (A4 (Ba (cs := [_, _, _, _, _]) hO Qg (fun b1 G hO => ?_)))
 refine pA (.int _ _) (pE (gn (A1 (A4 ?_))))
 refine Au Vp hO 0 (.lit _ _ _) CC ?_
 refine pM (.int _ _) (bk hk fun v2 hv2 hk => ?_)
 refine AR (fun _ => RB hv2) ?_
 refine pA (.int _ _) (pE (gn (A1 (A1 (A4 ?_)))))
 refine pM (.int _ _) ?_
 refine AX (pE (gn (Aq hk (fun hk => ?_) (fun hk => ?_))))
 ·refine A1 (A4 (pA (.int _ _) (pE (gn (Av (gr ?_))))))
  cases hk; exact AT hO
 ·refine As (gn (A1 (A4 (pM (.int _ _) ?_))))
  refine pA (.int _ _) (pE (gn (Av ?_)))
  cases hk; exact AT hO
def RC (aA0 : List AH) : (Int × Int) → Option ((Int × Int) ⊕ Int) := fun s =>
 (bif decide (s.2 < (aA0.length : Int)) then ((AL aA0 s.2).bind fun c3 => ((gV c3 s.1).bind fun v4 => (bif decide (v4 < (0:Int)) then ((some (-1:Int)).map Sum.inr) else some (.inl (v4, BV (s.2 + (1:Int))))))) else ((some s.1).map Sum.inr))
def iX (aA0 : List AH) (aLeft1 : Int) : Option Int :=
 (bif decide ((BV (aLeft1 - (aA0.length : Int))) < (0:Int)) then some (-1:Int) else (AJ (RC aA0) (BV (aLeft1 - (aA0.length : Int)), (0:Int))))
theorem Zf {aA0 : List AH} {aLeft1 : Int} {r : Int} {l1 m2 : Nat} (hk : iX aA0 aLeft1 = some r) (hlk : 0 < lk.length := by simp) : Al Tryz.prog hh 35 [AN l1 m2 aA0, iv aLeft1] H lk = some (iv r, H) := by
 refine AI Tryz.func35 rfl Tryz.ntmps35 Tryz.results35 rfl rfl fun hO => ?_
 unfold iX at hk
 refine A1 (A4 (pA (.int _ _) (pE (gn (A1 (A4 ?_))))))
 refine pM (.int _ _) ?_
 refine pM (.lit _ _ _) ?_
 refine Ah bX ?_
 refine AX ?_
 refine pA (.int _ _) (pE (gn (A1 (A1 (A4 ?_)))))
 refine pM (.int _ _) ?_
 refine AX (pE (gn (Aq hk (fun hk => ?_) (fun hk => ?_))))
 ·refine A1 (A4 (pA (.int _ _) (pE (gn (Av (gr ?_))))))
  cases hk; exact AT hO
 ·refine As (gn (A1 (A1 (A4 (pA (.int _ _) (pE (gn (BQ ?_))))))))
  refine AD (F := RC aA0) (fun s S' => ∃ (J : Nat → V) (G : A3), A6 H G [] ∧ S' = ⟨CO [(0, AN l1 m2 aA0), (1, iv s.1), (5, iv s.2)] J, G⟩) hk ⟨_, _, hO, sh⟩ ?_
  rintro ⟨x1, x2⟩ _ y1 ⟨J, G, hO, rfl⟩ hk hx1
  refine A1 (A1 (A4 (pM (.int _ _) ?_)))
  refine pM (.lit _ _ _) ?_
  refine Ah bX ?_
  refine AX (pE (gn (Aq hk (fun hk => ?_) (fun hk => ?_))))
  ·refine As (gn (A1 (BQ (A1 (A4 (pM (.lit _ _ _) ?_))))))
   refine pM (.int _ _) (bk hk fun c3 hc3 hk => ?_)
   refine pX hc3 lH Qg ?_
   refine By (.agg [_, _, _, _, _]) (GG (lm := m2) (off := 0) hc3 dC Qg) ?_
   refine pM (.int _ _) (bk hk fun v4 hv4 hk => ?_)
   refine AR (fun _ => a7 hv4) ?_
   refine pA (.int _ _) (pE (gn (A1 (A4 ?_))))
   refine pM (.int _ _) ?_
   refine AX (pE (gn (Aq hk (fun hk => ?_) (fun hk => ?_))))
   ·refine A1 (A4 (pA (.int _ _) (pE (gn (Av (br (gr (gr (br (gr (have hk := lx hx1 hk; ?_)))))))))))
    cases hk; exact AT hO
   ·refine As (bn (gn (A4 (pM (.int _ _) ?_))))
    refine AX ?_
    refine pA (.int _ _) (pE (gn ?_))
    cases hk; exact ⟨_, rfl, _, _, hO, sh⟩
  ·refine D6 (ge (ge (be (gn (have hk := lx hx1 hk; A1 (A4 (pM (.int _ _) ?_)))))))
   refine pA (.int _ _) (pE (gn (Av ?_)))
   cases hk; exact AT hO
def f7 (aA0 : AE) (aLeft1 : Int) : Option Int :=
 ((cK aA0.C9 aLeft1).bind fun v2 => (bif decide (v2 < (0:Int)) then some (-1:Int) else ((iW aA0.A8 v2).bind fun v3 => (bif decide (v3 < (0:Int)) then some (-1:Int) else ((iX aA0.A5 v3).bind fun v4 => (bif decide (v4 < (0:Int)) then some (-1:Int) else some v4))))))
theorem eU {aA0 : AE} {aLeft1 : Int} {r : Int} {l1 l2 l3 m4 : Nat} (hk : f7 aA0 aLeft1 = some r) (hlk : 0 < lk.length := by simp) : Al Tryz.prog hh 7 [.agg (Ai l1 0 l2 0 l3 m4 aA0), iv aLeft1] H lk = some (iv r, H) := by
 refine AI Tryz.func7 rfl Tryz.ntmps7 Tryz.results7 rfl rfl fun hO => ?_
 unfold f7 at hk
 refine A1 (A4 (Ba (cs := [_, _, _, _]) hO TQ (fun b1 G hO => ?_)))
 refine pA (.int _ _) (pE (gn (A1 (A4 ?_))))
 refine Au Ys hO 0 (.lit _ _ _) CC ?_
 refine pM (.int _ _) (bk hk fun v2 hv2 hk => ?_)
 refine AR (fun _ => RB hv2) ?_
 refine pA (.int _ _) (pE (gn (A1 (A1 (A4 ?_)))))
 refine pM (.int _ _) ?_
 refine AX (pE (gn (Aq hk (fun hk => ?_) (fun hk => ?_))))
 ·refine A1 (A4 (pA (.int _ _) (pE (gn (Av (gr ?_))))))
  cases hk; exact AT hO
 ·refine As (gn (A1 (A4 (Au Yt hO 0 (.lit _ _ _) kZ ?_))))
  refine pM (.int _ _) (bk hk fun v3 hv3 hk => ?_)
  refine AR (fun _ => Ze hv3) ?_
  refine pA (.int _ _) (pE (gn (A1 (A1 (A4 ?_)))))
  refine pM (.int _ _) ?_
  refine AX (pE (gn (Aq hk (fun hk => ?_) (fun hk => ?_))))
  ·refine A1 (A4 (pA (.int _ _) (pE (gn (Av (gr ?_))))))
   cases hk; exact AT hO
  ·refine As (gn (A1 (A4 (Au Yu hO 0 (.lit _ _ _) lA ?_))))
   refine pM (.int _ _) (bk hk fun v4 hv4 hk => ?_)
   refine AR (fun _ => Zf hv4) ?_
   refine pA (.int _ _) (pE (gn (A1 (A1 (A4 ?_)))))
   refine pM (.int _ _) ?_
   refine AX (pE (gn (Aq hk (fun hk => ?_) (fun hk => ?_))))
   ·refine A1 (A4 (pA (.int _ _) (pE (gn (Av (gr ?_))))))
    cases hk; exact AT hO
   ·refine As (gn (A1 (A4 (pM (.int _ _) ?_))))
    refine pA (.int _ _) (pE (gn (Av ?_)))
    cases hk; exact AT hO
def Ny (aA0 : List Int) : ((List Int) × Int) → Option (((List Int) × Int) ⊕ (List Int)) := fun s =>
 (bif decide (s.2 < (aA0.length : Int)) then ((AL aA0 s.2).bind fun c5 => ((AL s.1 s.2).bind fun c6 => some (.inl (s.1.set s.2.toNat c5, BV (s.2 + (1:Int)))))) else ((some s.1).map Sum.inr))
def cL (aA0 : List Int) : Option (List Int) :=
 ((GK 8 (aA0.length : Int)).bind fun m1 => (AJ (Ny aA0) (List.replicate m1 (0 : Int), (0:Int))))
theorem NK {aA0 : List Int} {r : (List Int)} {l1 : Nat} (hk : cL aA0 = some r) (hlk : 0 < lk.length := by simp) : ∃ v H1, Al Tryz.prog hh 39 [AN l1 0 aA0] H lk = some (v, H1) ∧ HS H r v H1 := by
 refine B0 Tryz.func39 rfl Tryz.ntmps39 Tryz.results39 rfl rfl ?_
 have hO := A6.nil H
 unfold cL at hk
 refine A1 (A4 (pA (.tl 0 []) (pE (gn (A1 (A4 ?_))))))
 refine pM (.lit _ _ _) ?_
 refine Ah DE (bk hk fun m1 hm1 hk => ?_)
 refine hQ hO hm1 (0 : Int) C8 DS Wx Mx (fun b2 G hO => ?_)
 refine pA (.sl _ _ _) (pE (gn (A1 (A1 (A4 ?_)))))
 refine pA (.int _ _) (pE (gn (BQ ?_)))
 refine AD (F := Ny aA0) (fun s S' => ∃ (J : Nat → V) (G : A3), s.1.length = m1 ∧ A6 H G [.Ad b2 (.cells 1 (A9 0 s.1))] ∧ S' = ⟨CO [(0, AN l1 0 aA0), (3, .sl b2 0 m1), (4, iv s.2)] J, G⟩) hk ⟨_, _, List.length_replicate, hO, sh⟩ ?_
 rintro ⟨x3, x4⟩ _ y1 ⟨J, G, hl3, hO, rfl⟩ hk hx1
 refine A1 (A1 (A4 (pM (.int _ _) ?_)))
 refine pM (.lit _ _ _) ?_
 refine Ah DE ?_
 refine AX (pE (gn (Aq hk (fun hk => ?_) (fun hk => ?_))))
 ·refine As (gn (A1 (BQ (A4 (pM (.sl _ _ _) ?_)))))
  refine pM (.int _ _) ?_
  refine pM (.lit _ _ _) ?_
  refine pM (.int _ _) (bk hk fun c5 hc5 hk => ?_)
  refine pX hc5 C8 DS ?_
  refine By (.int _ _) (D7 (lm := 0) (off := 0) hc5 BW) (bk hk fun c6 hc6 hk => ?_)
  refine mC hl3 hc6 C8 DS ?_
  refine mB hO 0 hc6 DS rfl c5 (.int _ _) (fun G hO => pE (bn (gn (A4 ?_))))
  refine pM (.int _ _) ?_
  refine AX ?_
  refine pA (.int _ _) (pE (gn ?_))
  cases hk; exact ⟨_, rfl, _, _, (List.length_set.trans hl3), hO, sh⟩
 ·refine D6 (ge (ge (be (gn (have hk := lx hx1 hk; A1 (A4 (pM (.sl _ _ _) ?_)))))))
  refine pA (.sl _ _ _) (pE (gn (Av ?_)))
  replace hk := Option.some.inj hk; subst hk; exact KN hO (LW (xs := x3) hl3 hlk 0) (MQ (.sl _ _ _) Dt)
def XY (aA0 : Aa) : Option Aa :=
 some aA0
theorem XZ {aA0 : Aa} {r : Aa} (hk : XY aA0 = some r) (hlk : 0 < lk.length := by simp) : Al Tryz.prog hh 121 [.agg [iv aA0.Switch, iv aA0.EZ]] H lk = some (.agg [iv r.Switch, iv r.EZ], H) := by
 refine AI Tryz.func121 rfl Tryz.ntmps121 Tryz.results121 rfl rfl fun hO => ?_
 unfold XY at hk
 refine A1 (A4 (Ba (cs := [_, _]) hO Yx (fun b1 G hO => C7 hO BD FZ (fun b2 G hO => pE (gn (A1 (A4 (C7 hO BD FZ (fun b3 G hO => pE (gn (A1 (A4 ?_))))))))))))
 refine Au bU hO 2 (.int _ _) BW ?_
 refine pF CR ?_
 refine Cl (xs := [_]) hO 0 DS rfl (fun G hO => pE (gn (A1 (A4 ?_))))
 refine Au bV hO 2 (.int _ _) BW ?_
 refine pF EC ?_
 refine Cl (xs := [_]) hO 0 DS rfl (fun G hO => pE (gn (A1 (A4 ?_))))
 refine Dw hO 0 [_, _] GA BD ?_
 refine Cl (xs := [_, _]) hO 1 BD rfl (fun G hO => pE (gn (Av ?_)))
 replace hk := Option.some.inj hk; subst hk; exact Gz hO (Dr (n := 2) (DN (CB _ _) (DN (CB _ _) (Ho)))) (FW hO 1 [_, _] GA BD Dt)
def Kj (aA0 : List Aa) : ((List Aa) × Int) → Option (((List Aa) × Int) ⊕ (List Aa)) := fun s =>
 (bif decide (s.2 < (aA0.length : Int)) then ((AL aA0 s.2).bind fun c5 => ((XY c5).bind fun v6 => ((AL s.1 s.2).bind fun c7 => some (.inl (s.1.set s.2.toNat v6, BV (s.2 + (1:Int))))))) else ((some s.1).map Sum.inr))
def WE (aA0 : List Aa) : Option (List Aa) :=
 ((GK 16 (aA0.length : Int)).bind fun m1 => (AJ (Kj aA0) (List.replicate m1 (⟨0, 0⟩ : Aa), (0:Int))))
theorem SW {aA0 : List Aa} {r : (List Aa)} {l1 : Nat} (hk : WE aA0 = some r) (hlk : 0 < lk.length := by simp) : ∃ v H1, Al Tryz.prog hh 106 [AN l1 0 aA0] H lk = some (v, H1) ∧ HS H r v H1 := by
 refine B0 Tryz.func106 rfl Tryz.ntmps106 Tryz.results106 rfl rfl ?_
 have hO := A6.nil H
 unfold WE at hk
 refine A1 (A4 (pA (.tl 0 []) (pE (gn (A1 (A4 ?_))))))
 refine pM (.lit _ _ _) ?_
 refine Ah Yv (bk hk fun m1 hm1 hk => ?_)
 refine hQ hO hm1 (⟨0, 0⟩ : Aa) Dl BD TO FZ (fun b2 G hO => ?_)
 refine pA (.sl _ _ _) (pE (gn (A1 (A1 (A4 ?_)))))
 refine pA (.int _ _) (pE (gn (BQ ?_)))
 refine AD (F := Kj aA0) (fun s S' => ∃ (J : Nat → V) (G : A3), s.1.length = m1 ∧ A6 H G [.Ad b2 (.cells 2 (A9 0 s.1))] ∧ S' = ⟨CO [(0, AN l1 0 aA0), (3, .sl b2 0 m1), (4, iv s.2)] J, G⟩) hk ⟨_, _, List.length_replicate, hO, sh⟩ ?_
 rintro ⟨x3, x4⟩ _ y1 ⟨J, G, hl3, hO, rfl⟩ hk hx1
 refine A1 (A1 (A4 (pM (.int _ _) ?_)))
 refine pM (.lit _ _ _) ?_
 refine Ah Yv ?_
 refine AX (pE (gn (Aq hk (fun hk => ?_) (fun hk => ?_))))
 ·refine As (gn (A1 (BQ (A4 (pM (.sl _ _ _) ?_)))))
  refine pM (.int _ _) ?_
  refine pM (.lit _ _ _) ?_
  refine pM (.int _ _) (bk hk fun c5 hc5 hk => ?_)
  refine pX hc5 lF Yx ?_
  refine By (.agg [_, _]) (GG (lm := 0) (off := 0) hc5 kX Yx) (bk hk fun v6 hv6 hk => ?_)
  refine AR (fun _ => XZ hv6) (bk hk fun c7 hc7 hk => ?_)
  refine mC hl3 hc7 Dl BD ?_
  refine mB hO 0 hc7 BD rfl v6 (.agg [_, _]) (fun G hO => pE (bn (gn (A4 ?_))))
  refine pM (.int _ _) ?_
  refine AX ?_
  refine pA (.int _ _) (pE (gn ?_))
  cases hk; exact ⟨_, rfl, _, _, (List.length_set.trans hl3), hO, sh⟩
 ·refine D6 (ge (ge (be (gn (have hk := lx hx1 hk; A1 (A4 (pM (.sl _ _ _) ?_)))))))
  refine pA (.sl _ _ _) (pE (gn (Av ?_)))
  replace hk := Option.some.inj hk; subst hk; exact KN hO (LW (xs := x3) hl3 hlk 0) (MQ (.sl _ _ _) Dt)
def jO (aA0 : Bu) : Option Bu :=
 ((cL aA0.A0).bind fun v4 => ((WE aA0.AO).bind fun v7 => ((WE aA0.AB).bind fun v10 => ((cL aA0.BY).bind fun v13 => ((cL aA0.DF).bind fun v16 => some ({ A0 := v4, AO := v7, AB := v10, BY := v13, DF := v16 } : Bu))))))
theorem aC {aA0 : Bu} {r : Bu} {l1 l2 l3 l4 l5 : Nat} (hk : jO aA0 = some r) (hlk : 0 < lk.length := by simp) : ∃ v H1, Al Tryz.prog hh 76 [.agg (Cq l1 0 l2 0 l3 0 l4 0 l5 0 aA0)] H lk = some (v, H1) ∧ Gb H r v H1 := by
 refine B0 Tryz.func76 rfl Tryz.ntmps76 Tryz.results76 rfl rfl ?_
 have hO := A6.nil H
 unfold jO at hk
 refine A1 (A4 (Ba (cs := [_, _, _, _, _]) hO Qf (fun b1 G hO => C7 hO B1 Ir (fun b2 G hO => pE (gn (A1 (A4 (C7 hO B1 Ir (fun b3 G hO => pE (gn (A1 (A4 ?_))))))))))))
 refine Au Vk hO 2 (.lit _ _ _) BC (bk hk fun v4 hv4 hk => ?_)
 refine Vc hO (fun _ => NK hv4) (fun u5 F5 G hO => ?_)
 refine pF BL ?_
 have hc6 := B7 hO (j := 0) rfl
 refine Cl (xs := [_]) hO 1 LU rfl (fun G hO => ?_) (h3 := hc6.1) (h6 := Bo hc6.2)
 refine pE (gn (A1 (A4 (Au Vl hO 3 (.lit _ _ _) Vi (bk hk fun v7 hv7 hk => ?_)))))
 refine Vc hO (fun _ => SW hv7) (fun u8 F8 G hO => ?_)
 refine pF EB ?_
 have hc9 := B7 hO (j := 0) rfl
 refine Cl (xs := [_]) hO 2 Qh rfl (fun G hO => ?_) (h3 := hc9.1) (h6 := Bo hc9.2)
 refine pE (gn (A1 (A4 (Au Vm hO 4 (.lit _ _ _) Vi (bk hk fun v10 hv10 hk => ?_)))))
 refine Vc hO (fun _ => SW hv10) (fun u11 F11 G hO => ?_)
 refine pF EX ?_
 have hc12 := B7 hO (j := 0) rfl
 refine Cl (xs := [_]) hO 3 Qh rfl (fun G hO => ?_) (h3 := hc12.1) (h6 := Bo hc12.2)
 refine pE (gn (A1 (A4 (Au Vn hO 5 (.lit _ _ _) BC (bk hk fun v13 hv13 hk => ?_)))))
 refine Vc hO (fun _ => NK hv13) (fun u14 F14 G hO => ?_)
 refine pF DY ?_
 have hc15 := B7 hO (j := 0) rfl
 refine Cl (xs := [_]) hO 4 LU rfl (fun G hO => ?_) (h3 := hc15.1) (h6 := Bo hc15.2)
 refine pE (gn (A1 (A4 (Au Vo hO 6 (.lit _ _ _) BC (bk hk fun v16 hv16 hk => ?_)))))
 refine Vc hO (fun _ => NK hv16) (fun u17 F17 G hO => ?_)
 refine pF Jt ?_
 have hc18 := B7 hO (j := 0) rfl
 refine Cl (xs := [_]) hO 5 LU rfl (fun G hO => ?_) (h3 := hc18.1) (h6 := Bo hc18.2)
 refine pE (gn (A1 (A4 (Dw hO 5 [_, _, _, _, _] FB B1 ?_))))
 have hc19 := B7 hO (j := 4) rfl
 have hc20 := B7 hO (j := 3) rfl
 have hc21 := B7 hO (j := 2) rfl
 have hc22 := B7 hO (j := 1) rfl
 have hc23 := B7 hO (j := 0) rfl
 refine Cl (xs := [_, _, _, _, _]) hO 6 B1 rfl (fun G hO => ?_) (h6 := (Bq hc19.2 (Bq hc20.2 (Bq hc21.2 (Bq hc22.2 (Bq hc23.2 Ik))))))
 refine pE (gn (Av ?_))
 replace hk := Option.some.inj hk; subst hk; exact IG hO (gI (x := ({ A0 := v4, AO := v7, AB := v10, BY := v13, DF := v16 } : Bu)) (Bx (c1 := [_]) (Cz (x := v4) 4) (Bx (c1 := [_]) (Cz (x := v7) 3) (Bx (c1 := [_]) (Cz (x := v10) 2) (Bx (c1 := [_]) (Cz (x := v13) 1) (Cz (x := v16) 0)))))) (FW hO 6 [_, _, _, _, _] FB B1 Dt)
def O0 (aA0 : List Bu) : ((List Bu) × Int) → Option (((List Bu) × Int) ⊕ (List Bu)) := fun s =>
 (bif decide (s.2 < (aA0.length : Int)) then ((AL aA0 s.2).bind fun c7 => ((jO c7).bind fun v8 => ((AL s.1 s.2).bind fun c10 => some (.inl (s.1.set s.2.toNat v8, BV (s.2 + (1:Int))))))) else ((some s.1).map Sum.inr))
def j7 (aA0 : List Bu) : Option (List Bu) :=
 ((GK 120 (aA0.length : Int)).bind fun m1 => (AJ (O0 aA0) (List.replicate m1 (⟨[], [], [], [], []⟩ : Bu), (0:Int))))
theorem Zi {aA0 : List Bu} {r : (List Bu)} {l1 m2 : Nat} (hk : j7 aA0 = some r) (hlk : 0 < lk.length := by simp) : ∃ v H1, Al Tryz.prog hh 40 [AN l1 m2 aA0] H lk = some (v, H1) ∧ HS H r v H1 := by
 refine B0 Tryz.func40 rfl Tryz.ntmps40 Tryz.results40 rfl rfl ?_
 have hO := A6.nil H
 unfold j7 at hk
 refine A1 (A4 (pA (.tl 0 []) (pE (gn (A1 (A4 ?_))))))
 refine pM (.lit _ _ _) ?_
 refine Ah bW (bk hk fun m1 hm1 hk => ?_)
 refine fR hO hm1 (⟨[], [], [], [], []⟩ : Bu) Ex B1 lC Ir (fun G => (show An.tr G (⟨[], [], [], [], []⟩ : Bu) [(.tl 0 []), (.tl 0 []), (.tl 0 []), (.tl 0 []), (.tl 0 [])] [] from ⟨[_], _, [], [], rfl, rfl, .inl ⟨rfl, rfl, rfl⟩, ⟨[_], _, [], [], rfl, rfl, .inl ⟨rfl, rfl, rfl⟩, ⟨[_], _, [], [], rfl, rfl, .inl ⟨rfl, rfl, rfl⟩, ⟨[_], _, [], [], rfl, rfl, .inl ⟨rfl, rfl, rfl⟩, .inl ⟨rfl, rfl, rfl⟩⟩⟩⟩⟩)) (fun b2 G hO => ?_)
 refine pA (.sl b2 0 m1) (pE (gn (A1 (A1 (A4 ?_)))))
 refine pA (.int _ _) (pE (gn (BQ ?_)))
 refine AD (F := O0 aA0) (fun s S' => ∃ (F5 : List Nat) (J : Nat → V) (G : A3), A6 H G [AY [] F5 s.1 [.sl b2 0 m1]] ∧ S' = ⟨CO [(0, AN l1 m2 aA0), (3, (.sl b2 0 m1)), (4, iv s.2)] J, G⟩) hk ⟨[b2], _, _, hO, sh⟩ ?_
 rintro ⟨x4, x6⟩ _ y1 ⟨F5, J, G, hO, rfl⟩ hk hx1
 refine A1 (A1 (A4 (pM (.int _ _) ?_)))
 refine pM (.lit _ _ _) ?_
 refine Ah bW ?_
 refine AX (pE (gn (Aq hk (fun hk => ?_) (fun hk => ?_))))
 ·refine As (gn (A1 (BQ (A4 (pM (.sl b2 0 m1) ?_)))))
  refine pM (.int _ _) ?_
  refine pM (.lit _ _ _) ?_
  refine pM (.int _ _) (bk hk fun c7 hc7 hk => ?_)
  refine pX hc7 lG Qf ?_
  refine By (.agg [_, _, _, _, _]) (GG (lm := m2) (off := 0) hc7 dB Qf) (bk hk fun v8 hv8 hk => ?_)
  refine ML hO (fun _ => aC hv8) (fun u9 F9 G hO => bk hk fun c10 hc10 hk => ?_)
  refine Lb hO 1 hc10 Ex B1 (fun b11 hb11 => ?_)
  refine fS hO 0 hb11 hc10 B1 rfl (fun G hO => pE (bn (gn (A4 ?_))))
  refine pM (.int _ _) ?_
  refine AX ?_
  refine pA (.int _ _) (pE (gn ?_))
  cases hk; exact ⟨_, rfl, (F5 ++ F9), _, _, hO, sh⟩
 ·refine D6 (ge (ge (be (gn (have hk := lx hx1 hk; A1 (A4 (pM (.sl b2 0 m1) ?_)))))))
  refine pA (.sl b2 0 m1) (pE (gn (Av ?_)))
  replace hk := Option.some.inj hk; subst hk; exact KN hO (Cz (x := x4) 0) (MQ (.sl b2 0 m1) Dt)
def O2 (aA0 : List Bool) : ((List Bool) × Int) → Option (((List Bool) × Int) ⊕ (List Bool)) := fun s =>
 (bif decide (s.2 < (aA0.length : Int)) then ((AL aA0 s.2).bind fun c5 => ((AL s.1 s.2).bind fun c6 => some (.inl (s.1.set s.2.toNat c5, BV (s.2 + (1:Int)))))) else ((some s.1).map Sum.inr))
def eC (aA0 : List Bool) : Option (List Bool) :=
 ((GK 1 (aA0.length : Int)).bind fun m1 => (AJ (O2 aA0) (List.replicate m1 (false : Bool), (0:Int))))
theorem RG {aA0 : List Bool} {r : (List Bool)} {l1 : Nat} (hk : eC aA0 = some r) (hlk : 0 < lk.length := by simp) : ∃ v H1, Al Tryz.prog hh 42 [AN l1 0 aA0] H lk = some (v, H1) ∧ HS H r v H1 := by
 refine B0 Tryz.func42 rfl Tryz.ntmps42 Tryz.results42 rfl rfl ?_
 have hO := A6.nil H
 unfold eC at hk
 refine A1 (A4 (pA (.tl 0 []) (pE (gn (A1 (A4 ?_))))))
 refine pM (.lit _ _ _) ?_
 refine Ah Hd (bk hk fun m1 hm1 hk => ?_)
 refine hQ hO hm1 (false : Bool) Cn FU gA dA (fun b2 G hO => ?_)
 refine pA (.sl _ _ _) (pE (gn (A1 (A1 (A4 ?_)))))
 refine pA (.int _ _) (pE (gn (BQ ?_)))
 refine AD (F := O2 aA0) (fun s S' => ∃ (J : Nat → V) (G : A3), s.1.length = m1 ∧ A6 H G [.Ad b2 (.cells 1 (A9 0 s.1))] ∧ S' = ⟨CO [(0, AN l1 0 aA0), (3, .sl b2 0 m1), (4, iv s.2)] J, G⟩) hk ⟨_, _, List.length_replicate, hO, sh⟩ ?_
 rintro ⟨x3, x4⟩ _ y1 ⟨J, G, hl3, hO, rfl⟩ hk hx1
 refine A1 (A1 (A4 (pM (.int _ _) ?_)))
 refine pM (.lit _ _ _) ?_
 refine Ah Hd ?_
 refine AX (pE (gn (Aq hk (fun hk => ?_) (fun hk => ?_))))
 ·refine As (gn (A1 (BQ (A4 (pM (.sl _ _ _) ?_)))))
  refine pM (.int _ _) ?_
  refine pM (.lit _ _ _) ?_
  refine pM (.int _ _) (bk hk fun c5 hc5 hk => ?_)
  refine pX hc5 Cn FU ?_
  refine By (.bool _) (D7 (lm := 0) (off := 0) hc5 Fv) (bk hk fun c6 hc6 hk => ?_)
  refine mC hl3 hc6 Cn FU ?_
  refine mB hO 0 hc6 FU rfl c5 (.bool _) (fun G hO => pE (bn (gn (A4 ?_))))
  refine pM (.int _ _) ?_
  refine AX ?_
  refine pA (.int _ _) (pE (gn ?_))
  cases hk; exact ⟨_, rfl, _, _, (List.length_set.trans hl3), hO, sh⟩
 ·refine D6 (ge (ge (be (gn (have hk := lx hx1 hk; A1 (A4 (pM (.sl _ _ _) ?_)))))))
  refine pA (.sl _ _ _) (pE (gn (Av ?_)))
  replace hk := Option.some.inj hk; subst hk; exact KN hO (LW (xs := x3) hl3 hlk 0) (MQ (.sl _ _ _) Dt)
def O1 (aA0 : List (List Bool)) : ((List (List Bool)) × Int) → Option (((List (List Bool)) × Int) ⊕ (List (List Bool))) := fun s =>
 (bif decide (s.2 < (aA0.length : Int)) then ((AL aA0 s.2).bind fun c7 => ((eC c7).bind fun v8 => ((AL s.1 s.2).bind fun c10 => some (.inl (s.1.set s.2.toNat v8, BV (s.2 + (1:Int))))))) else ((some s.1).map Sum.inr))
def j8 (aA0 : List (List Bool)) : Option (List (List Bool)) :=
 ((GK 24 (aA0.length : Int)).bind fun m1 => (AJ (O1 aA0) (List.replicate m1 ([] : List Bool), (0:Int))))
theorem Zj {aA0 : List (List Bool)} {r : (List (List Bool))} {l1 m2 : Nat} (hk : j8 aA0 = some r) (hlk : 0 < lk.length := by simp) : ∃ v H1, Al Tryz.prog hh 41 [AN l1 m2 aA0] H lk = some (v, H1) ∧ HS H r v H1 := by
 refine B0 Tryz.func41 rfl Tryz.ntmps41 Tryz.results41 rfl rfl ?_
 have hO := A6.nil H
 unfold j8 at hk
 refine A1 (A4 (pA (.tl 0 []) (pE (gn (A1 (A4 ?_))))))
 refine pM (.lit _ _ _) ?_
 refine Ah MX (bk hk fun m1 hm1 hk => ?_)
 refine fR hO hm1 ([] : List Bool) Iu GI nI nH (fun G => (show An.tr G ([] : List Bool) [(.tl 0 [])] [] from .inl ⟨rfl, rfl, rfl⟩)) (fun b2 G hO => ?_)
 refine pA (.sl b2 0 m1) (pE (gn (A1 (A1 (A4 ?_)))))
 refine pA (.int _ _) (pE (gn (BQ ?_)))
 refine AD (F := O1 aA0) (fun s S' => ∃ (F5 : List Nat) (J : Nat → V) (G : A3), A6 H G [AY [] F5 s.1 [.sl b2 0 m1]] ∧ S' = ⟨CO [(0, AN l1 m2 aA0), (3, (.sl b2 0 m1)), (4, iv s.2)] J, G⟩) hk ⟨[b2], _, _, hO, sh⟩ ?_
 rintro ⟨x4, x6⟩ _ y1 ⟨F5, J, G, hO, rfl⟩ hk hx1
 refine A1 (A1 (A4 (pM (.int _ _) ?_)))
 refine pM (.lit _ _ _) ?_
 refine Ah MX ?_
 refine AX (pE (gn (Aq hk (fun hk => ?_) (fun hk => ?_))))
 ·refine As (gn (A1 (BQ (A4 (pM (.sl b2 0 m1) ?_)))))
  refine pM (.int _ _) ?_
  refine pM (.lit _ _ _) ?_
  refine pM (.int _ _) (bk hk fun c7 hc7 hk => ?_)
  refine pX hc7 Iu GI ?_
  refine By (.lit _ _ _) (D7 (lm := m2) (off := 0) hc7 CC) (bk hk fun v8 hv8 hk => ?_)
  refine Vc hO (fun _ => RG hv8) (fun u9 F9 G hO => bk hk fun c10 hc10 hk => ?_)
  refine Lb hO 1 hc10 Iu GI (fun b11 hb11 => ?_)
  refine fS hO 0 hb11 hc10 GI rfl (fun G hO => ?_) (h3 := (B7 hO (j := 0) rfl).1)
  refine pE (bn (gn (A4 (pM (.int _ _) ?_))))
  refine AX ?_
  refine pA (.int _ _) (pE (gn ?_))
  cases hk; exact ⟨_, rfl, (F5 ++ F9), _, _, hO, sh⟩
 ·refine D6 (ge (ge (be (gn (have hk := lx hx1 hk; A1 (A4 (pM (.sl b2 0 m1) ?_)))))))
  refine pA (.sl b2 0 m1) (pE (gn (Av ?_)))
  replace hk := Option.some.inj hk; subst hk; exact KN hO (Cz (x := x4) 0) (MQ (.sl b2 0 m1) Dt)
def f9 (aA0 : AQ) : Option AQ :=
 ((cL aA0.A7).bind fun v4 => ((j7 aA0.A5).bind fun v7 => ((j8 aA0.BX).bind fun v10 => some ({ A0 := aA0.A0, A7 := v4, A5 := v7, BX := v10, ED := aA0.ED } : AQ))))
theorem RU {aA0 : AQ} {r : AQ} {l1 l2 m3 l4 m5 : Nat} (hk : f9 aA0 = some r) (hlk : 0 < lk.length := by simp) : ∃ v H1, Al Tryz.prog hh 9 [.agg (Aj l1 0 l2 m3 l4 m5 aA0)] H lk = some (v, H1) ∧ Gb H r v H1 := by
 refine B0 Tryz.func9 rfl Tryz.ntmps9 Tryz.results9 rfl rfl ?_
 have hO := A6.nil H
 unfold f9 at hk
 refine A1 (A4 (Ba (cs := [_, _, _, _, _]) hO TP (fun b1 G hO => C7 hO CH fZ (fun b2 G hO => pE (gn (A1 (A4 (C7 hO CH fZ (fun b3 G hO => pE (gn (A1 (A4 ?_))))))))))))
 refine Au gC hO 2 (.int _ _) BW ?_
 refine pF EO ?_
 refine Cl (xs := [_]) hO 0 DS rfl (fun G hO => pE (gn (A1 (A4 ?_))))
 refine Au Yp hO 2 (.lit _ _ _) BC (bk hk fun v4 hv4 hk => ?_)
 refine Vc hO (fun _ => NK hv4) (fun u5 F5 G hO => ?_)
 refine pF Dg ?_
 have hc6 := B7 hO (j := 0) rfl
 refine Cl (xs := [_]) hO 1 LU rfl (fun G hO => ?_) (h3 := hc6.1) (h6 := Bo hc6.2)
 refine pE (gn (A1 (A4 (Au Yq hO 3 (.lit _ _ _) kY (bk hk fun v7 hv7 hk => ?_)))))
 refine Vc hO (fun _ => Zi hv7) (fun u8 F8 G hO => ?_)
 refine pF Bk ?_
 have hc9 := B7 hO (j := 0) rfl
 refine Cl (xs := [_]) hO 2 nN rfl (fun G hO => ?_) (h3 := hc9.1) (h6 := Bo hc9.2)
 refine pE (gn (A1 (A4 (Au Yr hO 4 (.lit _ _ _) It (bk hk fun v10 hv10 hk => ?_)))))
 refine Vc hO (fun _ => Zj hv10) (fun u11 F11 G hO => ?_)
 refine pF EP ?_
 have hc12 := B7 hO (j := 0) rfl
 refine Cl (xs := [_]) hO 3 nM rfl (fun G hO => ?_) (h3 := hc12.1) (h6 := Bo hc12.2)
 refine pE (gn (A1 (A4 (Au gD hO 5 (.int _ _) BW ?_))))
 refine pF KY ?_
 refine Cl (xs := [_]) hO 3 DS rfl (fun G hO => pE (gn (A1 (A4 ?_))))
 refine Dw hO 3 [_, _, _, _, _] FG CH ?_
 have hc13 := B7 hO (j := 2) rfl
 have hc14 := B7 hO (j := 1) rfl
 have hc15 := B7 hO (j := 0) rfl
 refine Cl (xs := [_, _, _, _, _]) hO 4 CH rfl (fun G hO => ?_) (h6 := (Bq rfl (Bq hc13.2 (Bq hc14.2 (Bq hc15.2 (Bq rfl Ik))))))
 refine pE (gn (Av ?_))
 replace hk := Option.some.inj hk; subst hk; exact IG hO (bY (x := ({ A0 := aA0.A0, A7 := v4, A5 := v7, BX := v10, ED := aA0.ED } : AQ)) (Bx (c1 := [_]) (JY aA0.A0) (Bx (c1 := [_]) (Cz (x := v4) 2) (Bx (c1 := [_]) (Cz (x := v7) 1) (Bx (c1 := [_]) (Cz (x := v10) 0) (JY aA0.ED)))))) (FW hO 4 [_, _, _, _, _] FG CH Dt)
def jP (aA0 : Am) : Option Am :=
 some aA0
theorem aD {aA0 : Am} {r : Am} (hk : jP aA0 = some r) (hlk : 0 < lk.length := by simp) : Al Tryz.prog hh 77 [.agg [iv aA0.Want, iv aA0.AO]] H lk = some (.agg [iv r.Want, iv r.AO], H) := by
 refine AI Tryz.func77 rfl Tryz.ntmps77 Tryz.results77 rfl rfl fun hO => ?_
 unfold jP at hk
 refine A1 (A4 (Ba (cs := [_, _]) hO Yw (fun b1 G hO => C7 hO EE TN (fun b2 G hO => pE (gn (A1 (A4 (C7 hO EE TN (fun b3 G hO => pE (gn (A1 (A4 ?_))))))))))))
 refine Au bR hO 2 (.int _ _) BW ?_
 refine pF Ig ?_
 refine Cl (xs := [_]) hO 0 DS rfl (fun G hO => pE (gn (A1 (A4 ?_))))
 refine Au bS hO 2 (.int _ _) BW ?_
 refine pF KZ ?_
 refine Cl (xs := [_]) hO 0 DS rfl (fun G hO => pE (gn (A1 (A4 ?_))))
 refine Dw hO 0 [_, _] SD EE ?_
 refine Cl (xs := [_, _]) hO 1 EE rfl (fun G hO => pE (gn (Av ?_)))
 replace hk := Option.some.inj hk; subst hk; exact Gz hO (Dr (n := 2) (DN (CB _ _) (DN (CB _ _) (Ho)))) (FW hO 1 [_, _] SD EE Dt)
def O3 (aA0 : List Am) : ((List Am) × Int) → Option (((List Am) × Int) ⊕ (List Am)) := fun s =>
 (bif decide (s.2 < (aA0.length : Int)) then ((AL aA0 s.2).bind fun c5 => ((jP c5).bind fun v6 => ((AL s.1 s.2).bind fun c7 => some (.inl (s.1.set s.2.toNat v6, BV (s.2 + (1:Int))))))) else ((some s.1).map Sum.inr))
def j9 (aA0 : List Am) : Option (List Am) :=
 ((GK 16 (aA0.length : Int)).bind fun m1 => (AJ (O3 aA0) (List.replicate m1 (⟨0, 0⟩ : Am), (0:Int))))
theorem Zk {aA0 : List Am} {r : (List Am)} {l1 : Nat} (hk : j9 aA0 = some r) (hlk : 0 < lk.length := by simp) : ∃ v H1, Al Tryz.prog hh 43 [AN l1 0 aA0] H lk = some (v, H1) ∧ HS H r v H1 := by
 refine B0 Tryz.func43 rfl Tryz.ntmps43 Tryz.results43 rfl rfl ?_
 have hO := A6.nil H
 unfold j9 at hk
 refine A1 (A4 (pA (.tl 0 []) (pE (gn (A1 (A4 ?_))))))
 refine pM (.lit _ _ _) ?_
 refine Ah gF (bk hk fun m1 hm1 hk => ?_)
 refine hQ hO hm1 (⟨0, 0⟩ : Am) Iv EE gB TN (fun b2 G hO => ?_)
 refine pA (.sl _ _ _) (pE (gn (A1 (A1 (A4 ?_)))))
 refine pA (.int _ _) (pE (gn (BQ ?_)))
 refine AD (F := O3 aA0) (fun s S' => ∃ (J : Nat → V) (G : A3), s.1.length = m1 ∧ A6 H G [.Ad b2 (.cells 2 (A9 0 s.1))] ∧ S' = ⟨CO [(0, AN l1 0 aA0), (3, .sl b2 0 m1), (4, iv s.2)] J, G⟩) hk ⟨_, _, List.length_replicate, hO, sh⟩ ?_
 rintro ⟨x3, x4⟩ _ y1 ⟨J, G, hl3, hO, rfl⟩ hk hx1
 refine A1 (A1 (A4 (pM (.int _ _) ?_)))
 refine pM (.lit _ _ _) ?_
 refine Ah gF ?_
 refine AX (pE (gn (Aq hk (fun hk => ?_) (fun hk => ?_))))
 ·refine As (gn (A1 (BQ (A4 (pM (.sl _ _ _) ?_)))))
  refine pM (.int _ _) ?_
  refine pM (.lit _ _ _) ?_
  refine pM (.int _ _) (bk hk fun c5 hc5 hk => ?_)
  refine pX hc5 nJ Yw ?_
  refine By (.agg [_, _]) (GG (lm := 0) (off := 0) hc5 kW Yw) (bk hk fun v6 hv6 hk => ?_)
  refine AR (fun _ => aD hv6) (bk hk fun c7 hc7 hk => ?_)
  refine mC hl3 hc7 Iv EE ?_
  refine mB hO 0 hc7 EE rfl v6 (.agg [_, _]) (fun G hO => pE (bn (gn (A4 ?_))))
  refine pM (.int _ _) ?_
  refine AX ?_
  refine pA (.int _ _) (pE (gn ?_))
  cases hk; exact ⟨_, rfl, _, _, (List.length_set.trans hl3), hO, sh⟩
 ·refine D6 (ge (ge (be (gn (have hk := lx hx1 hk; A1 (A4 (pM (.sl _ _ _) ?_)))))))
  refine pA (.sl _ _ _) (pE (gn (Av ?_)))
  replace hk := Option.some.inj hk; subst hk; exact KN hO (LW (xs := x3) hl3 hlk 0) (MQ (.sl _ _ _) Dt)
def jQ (aA0 : AH) : Option AH :=
 ((eC aA0.Ab).bind fun v4 => some ({ State := aA0.State, Ac := aA0.Ac, Ab := v4, Shown := aA0.Shown, Timer := aA0.Timer } : AH))
theorem aE {aA0 : AH} {r : AH} {l1 : Nat} (hk : jQ aA0 = some r) (hlk : 0 < lk.length := by simp) : ∃ v H1, Al Tryz.prog hh 78 [.agg [iv aA0.State, iv aA0.Ac, AN l1 0 aA0.Ab, .bool aA0.Shown, iv aA0.Timer]] H lk = some (v, H1) ∧ Gb H r v H1 := by
 refine B0 Tryz.func78 rfl Tryz.ntmps78 Tryz.results78 rfl rfl ?_
 have hO := A6.nil H
 unfold jQ at hk
 refine A1 (A4 (Ba (cs := [_, _, _, _, _]) hO Qg (fun b1 G hO => C7 hO Ay FT (fun b2 G hO => pE (gn (A1 (A4 (C7 hO Ay FT (fun b3 G hO => pE (gn (A1 (A4 ?_))))))))))))
 refine Au bN hO 2 (.int _ _) BW ?_
 refine pF B9 ?_
 refine Cl (xs := [_]) hO 0 DS rfl (fun G hO => pE (gn (A1 (A4 ?_))))
 refine Au bO hO 2 (.int _ _) BW ?_
 refine pF C1 ?_
 refine Cl (xs := [_]) hO 0 DS rfl (fun G hO => pE (gn (A1 (A4 ?_))))
 refine Au Vp hO 2 (.lit _ _ _) CC (bk hk fun v4 hv4 hk => ?_)
 refine Vc hO (fun _ => RG hv4) (fun u5 F5 G hO => ?_)
 refine pF C6 ?_
 have hc6 := B7 hO (j := 0) rfl
 refine Cl (xs := [_]) hO 1 GI rfl (fun G hO => ?_) (h3 := hc6.1) (h6 := Bo hc6.2)
 refine pE (gn (A1 (A4 (Au bP hO 3 (.bool _) Fv ?_))))
 refine pF Dv ?_
 refine Cl (xs := [_]) hO 1 FU rfl (fun G hO => pE (gn (A1 (A4 ?_))))
 refine Au bQ hO 3 (.int _ _) BW ?_
 refine pF EA ?_
 refine Cl (xs := [_]) hO 1 DS rfl (fun G hO => pE (gn (A1 (A4 ?_))))
 refine Dw hO 1 [_, _, _, _, _] G9 Ay ?_
 have hc7 := B7 hO (j := 0) rfl
 refine Cl (xs := [_, _, _, _, _]) hO 2 Ay rfl (fun G hO => ?_) (h6 := (Bq rfl (Bq rfl (Bq hc7.2 (Bq rfl (Bq rfl Ik))))))
 refine pE (gn (Av ?_))
 replace hk := Option.some.inj hk; subst hk; exact IG hO (Vq (x := ({ State := aA0.State, Ac := aA0.Ac, Ab := v4, Shown := aA0.Shown, Timer := aA0.Timer } : AH)) (Bx (c1 := [_]) (JY aA0.State) (Bx (c1 := [_]) (JY aA0.Ac) (Bx (c1 := [_]) (Cz (x := v4) 0) (Bx (c1 := [_]) (LV aA0.Shown) (JY aA0.Timer)))))) (FW hO 2 [_, _, _, _, _] G9 Ay Dt)
def O4 (aA0 : List AH) : ((List AH) × Int) → Option (((List AH) × Int) ⊕ (List AH)) := fun s =>
 (bif decide (s.2 < (aA0.length : Int)) then ((AL aA0 s.2).bind fun c7 => ((jQ c7).bind fun v8 => ((AL s.1 s.2).bind fun c10 => some (.inl (s.1.set s.2.toNat v8, BV (s.2 + (1:Int))))))) else ((some s.1).map Sum.inr))
def jA (aA0 : List AH) : Option (List AH) :=
 ((GK 56 (aA0.length : Int)).bind fun m1 => (AJ (O4 aA0) (List.replicate m1 (⟨0, 0, [], false, 0⟩ : AH), (0:Int))))
theorem Zl {aA0 : List AH} {r : (List AH)} {l1 m2 : Nat} (hk : jA aA0 = some r) (hlk : 0 < lk.length := by simp) : ∃ v H1, Al Tryz.prog hh 44 [AN l1 m2 aA0] H lk = some (v, H1) ∧ HS H r v H1 := by
 refine B0 Tryz.func44 rfl Tryz.ntmps44 Tryz.results44 rfl rfl ?_
 have hO := A6.nil H
 unfold jA at hk
 refine A1 (A4 (pA (.tl 0 []) (pE (gn (A1 (A4 ?_))))))
 refine pM (.lit _ _ _) ?_
 refine Ah bX (bk hk fun m1 hm1 hk => ?_)
 refine fR hO hm1 (⟨0, 0, [], false, 0⟩ : AH) EN Ay Yo FT (fun G => (show An.tr G (⟨0, 0, [], false, 0⟩ : AH) [iv 0, iv 0, (.tl 0 []), .bool false, iv 0] [] from ⟨[_], _, [], [], rfl, rfl, ⟨rfl, rfl⟩, ⟨[_], _, [], [], rfl, rfl, ⟨rfl, rfl⟩, ⟨[_], _, [], [], rfl, rfl, .inl ⟨rfl, rfl, rfl⟩, ⟨[_], _, [], [], rfl, rfl, ⟨rfl, rfl⟩, ⟨rfl, rfl⟩⟩⟩⟩⟩)) (fun b2 G hO => ?_)
 refine pA (.sl b2 0 m1) (pE (gn (A1 (A1 (A4 ?_)))))
 refine pA (.int _ _) (pE (gn (BQ ?_)))
 refine AD (F := O4 aA0) (fun s S' => ∃ (F5 : List Nat) (J : Nat → V) (G : A3), A6 H G [AY [] F5 s.1 [.sl b2 0 m1]] ∧ S' = ⟨CO [(0, AN l1 m2 aA0), (3, (.sl b2 0 m1)), (4, iv s.2)] J, G⟩) hk ⟨[b2], _, _, hO, sh⟩ ?_
 rintro ⟨x4, x6⟩ _ y1 ⟨F5, J, G, hO, rfl⟩ hk hx1
 refine A1 (A1 (A4 (pM (.int _ _) ?_)))
 refine pM (.lit _ _ _) ?_
 refine Ah bX ?_
 refine AX (pE (gn (Aq hk (fun hk => ?_) (fun hk => ?_))))
 ·refine As (gn (A1 (BQ (A4 (pM (.sl b2 0 m1) ?_)))))
  refine pM (.int _ _) ?_
  refine pM (.lit _ _ _) ?_
  refine pM (.int _ _) (bk hk fun c7 hc7 hk => ?_)
  refine pX hc7 lH Qg ?_
  refine By (.agg [_, _, _, _, _]) (GG (lm := m2) (off := 0) hc7 dC Qg) (bk hk fun v8 hv8 hk => ?_)
  refine ML hO (fun _ => aE hv8) (fun u9 F9 G hO => bk hk fun c10 hc10 hk => ?_)
  refine Lb hO 1 hc10 EN Ay (fun b11 hb11 => ?_)
  refine fS hO 0 hb11 hc10 Ay rfl (fun G hO => pE (bn (gn (A4 ?_))))
  refine pM (.int _ _) ?_
  refine AX ?_
  refine pA (.int _ _) (pE (gn ?_))
  cases hk; exact ⟨_, rfl, (F5 ++ F9), _, _, hO, sh⟩
 ·refine D6 (ge (ge (be (gn (have hk := lx hx1 hk; A1 (A4 (pM (.sl b2 0 m1) ?_)))))))
  refine pA (.sl b2 0 m1) (pE (gn (Av ?_)))
  replace hk := Option.some.inj hk; subst hk; exact KN hO (Cz (x := x4) 0) (MQ (.sl b2 0 m1) Dt)
def cI (aA0 : AE) : Option AE :=
 ((eC aA0.C9).bind fun v4 => ((j9 aA0.A8).bind fun v7 => ((jA aA0.A5).bind fun v10 => some ({ Ok := aA0.Ok, C9 := v4, A8 := v7, A5 := v10 } : AE))))
theorem N9 {aA0 : AE} {r : AE} {l1 l2 l3 m4 : Nat} (hk : cI aA0 = some r) (hlk : 0 < lk.length := by simp) : ∃ v H1, Al Tryz.prog hh 10 [.agg (Ai l1 0 l2 0 l3 m4 aA0)] H lk = some (v, H1) ∧ Gb H r v H1 := by
 refine B0 Tryz.func10 rfl Tryz.ntmps10 Tryz.results10 rfl rfl ?_
 have hO := A6.nil H
 unfold cI at hk
 refine A1 (A4 (Ba (cs := [_, _, _, _]) hO TQ (fun b1 G hO => C7 hO C0 SC (fun b2 G hO => pE (gn (A1 (A4 (C7 hO C0 SC (fun b3 G hO => pE (gn (A1 (A4 ?_))))))))))))
 refine Au gE hO 2 (.bool _) Fv ?_
 refine pF MW ?_
 refine Cl (xs := [_]) hO 0 FU rfl (fun G hO => pE (gn (A1 (A4 ?_))))
 refine Au Ys hO 2 (.lit _ _ _) CC (bk hk fun v4 hv4 hk => ?_)
 refine Vc hO (fun _ => RG hv4) (fun u5 F5 G hO => ?_)
 refine pF Co ?_
 have hc6 := B7 hO (j := 0) rfl
 refine Cl (xs := [_]) hO 1 GI rfl (fun G hO => ?_) (h3 := hc6.1) (h6 := Bo hc6.2)
 refine pE (gn (A1 (A4 (Au Yt hO 3 (.lit _ _ _) kZ (bk hk fun v7 hv7 hk => ?_)))))
 refine Vc hO (fun _ => Zk hv7) (fun u8 F8 G hO => ?_)
 refine pF Dh ?_
 have hc9 := B7 hO (j := 0) rfl
 refine Cl (xs := [_]) hO 2 gG rfl (fun G hO => ?_) (h3 := hc9.1) (h6 := Bo hc9.2)
 refine pE (gn (A1 (A4 (Au Yu hO 4 (.lit _ _ _) lA (bk hk fun v10 hv10 hk => ?_)))))
 refine Vc hO (fun _ => Zl hv10) (fun u11 F11 G hO => ?_)
 refine pF Bl ?_
 have hc12 := B7 hO (j := 0) rfl
 refine Cl (xs := [_]) hO 3 gH rfl (fun G hO => ?_) (h3 := hc12.1) (h6 := Bo hc12.2)
 refine pE (gn (A1 (A4 (Dw hO 3 [_, _, _, _] Ew C0 ?_))))
 have hc13 := B7 hO (j := 2) rfl
 have hc14 := B7 hO (j := 1) rfl
 have hc15 := B7 hO (j := 0) rfl
 refine Cl (xs := [_, _, _, _]) hO 4 C0 rfl (fun G hO => ?_) (h6 := (Bq rfl (Bq hc13.2 (Bq hc14.2 (Bq hc15.2 Ik)))))
 refine pE (gn (Av ?_))
 replace hk := Option.some.inj hk; subst hk; exact IG hO (Pb (x := ({ Ok := aA0.Ok, C9 := v4, A8 := v7, A5 := v10 } : AE)) (Bx (c1 := [_]) (LV aA0.Ok) (Bx (c1 := [_]) (Cz (x := v4) 2) (Bx (c1 := [_]) (Cz (x := v7) 1) (Cz (x := v10) 0))))) (FW hO 4 [_, _, _, _] Ew C0 Dt)
def U1 (aX0 : Int) (aA1 : Int) (aB2 : Int) : Option Bool :=
 some (decide (aX0 ≥ aA1) && decide (aX0 ≤ aB2))
theorem Ei {aX0 : Int} {aA1 : Int} {aB2 : Int} {r : Bool} (hk : U1 aX0 aA1 aB2 = some r) (hlk : 0 < lk.length := by simp) : Al Tryz.prog hh 37 [iv aX0, iv aA1, iv aB2] H lk = some (.bool r, H) := by
 refine AI Tryz.func37 rfl Tryz.ntmps37 Tryz.results37 rfl rfl fun hO => ?_
 unfold U1 at hk
 refine A1 (A4 (pA (.bool _) (pE (gn (A1 (A4 ?_))))))
 refine pM (.int _ _) ?_
 refine pM (.int _ _) ?_
 refine AX ?_
 refine pM (.bool _) ?_
 refine AU (l1 := [_, _, _, _]) [11, 12, 13, 14] 14 (.bool (decide (aX0 ≥ aA1) && decide (aX0 ≤ aB2))) ?_ ?_
 ·refine bc (b := decide (aX0 ≥ aA1)) (fun hg => ?_) (fun hg => ?_)
  ·refine AF hg (pM (.int _ _) (AF hg ?_))
   refine pM (.int _ _) (AF hg ?_)
   refine AX ?_
   refine Cv hg (.bool _) ?_
   exact pE (ek (by rw [hg]; rfl))
  ·refine AG hg (AG hg (AG hg (Cu hg (.bool _) ?_)))
   exact pE (ek (by rw [hg]; rfl))
 ·intro J
  refine pA (.bool _) (pE (gn (Av ?_)))
  cases hk; exact AT hO
def ND (aList0 : List Int) (x1 : Int) (c2 : Int) : Int → Option (Int ⊕ (Int ⊕ Bool)) := fun s =>
 (bif decide (s < x1) then ((AL aList0 s).bind fun c5 => (bif (c5 == c2) then (((some false).map Sum.inr).map Sum.inr) else some (.inl (BV (s + (1:Int)))))) else ((some (.inl (BV (x1 + (1:Int))))).map Sum.inr))
def NC (aList0 : List Int) (aN1 : Int) : Int → Option (Int ⊕ Bool) := fun s =>
 (bif decide (s < (aList0.length : Int)) then ((AL aList0 s).bind fun c2 => ((U1 c2 (0:Int) (BV (aN1 - (1:Int)))).bind fun v3 => (bif !v3 then ((some false).map Sum.inr) else (AJ (ND aList0 s c2) ((0:Int)))))) else ((some (decide ((aList0.length : Int) ≤ (30:Int)))).map Sum.inr))
def Ty (aList0 : List Int) (aN1 : Int) : Option Bool :=
 (AJ (NC aList0 aN1) ((0:Int)))
theorem Nr {aList0 : List Int} {aN1 : Int} {r : Bool} {l1 : Nat} (hk : Ty aList0 aN1 = some r) (hlk : 0 < lk.length := by simp) : Al Tryz.prog hh 128 [AN l1 0 aList0, iv aN1] H lk = some (.bool r, H) := by
 refine AI Tryz.func128 rfl Tryz.ntmps128 Tryz.results128 rfl rfl fun hO => ?_
 unfold Ty at hk
 refine A1 (A4 (pA (.bool _) (pE (gn (A1 (A1 (A4 ?_)))))))
 refine pM (.lit _ _ _) ?_
 refine Ah DE ?_
 refine pM (.int _ _) (pE (gn (BQ ?_)))
 refine AD (F := NC aList0 aN1) (fun s S' => ∃ (J : Nat → V) (G : A3), A6 H G [] ∧ S' = ⟨CO [(0, AN l1 0 aList0), (1, iv aN1), (8, AN l1 0 aList0), (9, iv (aList0.length : Int)), (10, iv s)] J, G⟩) hk ⟨_, _, hO, sh⟩ ?_
 rintro x1 _ y1 ⟨J, G, hO, rfl⟩ hk hx1
 refine A1 (A4 (AX (pE (gn (A1 (Aq hk (fun hk => ?_) (fun hk => ?_)))))))
 ·refine As (gn (A1 (BQ (A1 (A4 (pM (.int _ _) (bk hk fun c2 hc2 hk => ?_)))))))
  refine pX hc2 C8 DS ?_
  refine By (.int _ _) (D7 (lm := 0) (off := 0) hc2 BW) ?_
  refine pA (.int _ _) ?_
  refine pA (.int _ _) (pE (gn (A1 (A1 (A4 ?_)))))
  refine pM (.int _ _) ?_
  refine pM (.int _ _) ?_
  refine AX (bk hk fun v3 hv3 hk => ?_)
  refine AR (fun _ => Ei hv3) ?_
  refine pU (pE (gn (Aq hk (fun hk => ?_) (fun hk => ?_))))
  ·refine A1 (A4 (pA (.bool _) (pE (gn (Av (gr (br (gr (gr (br (gr (have hk := lx hx1 hk; ?_))))))))))))
   cases hk; exact AT hO
  ·refine As (gn (A1 (A4 (pA (.int _ _) (pE (gn (BQ ?_)))))))
   refine AD (F := ND aList0 x1 c2) (fun s S' => ∃ (J : Nat → V) (G : A3), A6 H G [] ∧ S' = ⟨CO [(0, AN l1 0 aList0), (1, iv aN1), (5, iv x1), (6, iv c2), (7, iv s), (8, AN l1 0 aList0), (9, iv (aList0.length : Int)), (10, iv x1)] J, G⟩) hk ⟨_, _, hO, sh⟩ ?_
   rintro x4 _ y2 ⟨J, G, hO, rfl⟩ hk hx2
   refine A1 (A1 (A4 (pM (.int _ _) ?_)))
   refine pM (.int _ _) ?_
   refine AX (pE (gn (Aq hk (fun hk => ?_) (fun hk => ?_))))
   ·refine As (gn (A1 (BQ (A1 (A4 (pM (.lit _ _ _) ?_))))))
    refine pM (.int _ _) (bk hk fun c5 hc5 hk => ?_)
    refine pX hc5 C8 DS ?_
    refine By (.int _ _) (D7 (lm := 0) (off := 0) hc5 BW) ?_
    refine pM (.int _ _) ?_
    refine AX (pE (gn (Aq hk (fun hk => ?_) (fun hk => ?_))))
    ·refine A1 (A4 (pA (.bool _) (pE (gn (Av (br (gr (gr (br (br (gr (gr (br (gr (have hk := lx hx2 hk; have hk := lx hx1 hk; ?_)))))))))))))))
     cases hk; exact AT hO
    ·refine As (bn (gn (A4 (pM (.int _ _) ?_))))
     refine AX ?_
     refine pA (.int _ _) (pE (gn ?_))
     cases hk; exact ⟨_, rfl, _, _, hO, sh⟩
   ·refine D6 (ge (ge (be (bn (gn (have hk := lx hx2 hk; A4 (AX ?_)))))))
    refine pM (.int _ _) (pE (gn ?_))
    cases hk; exact ⟨_, rfl, _, _, hO, sh⟩
 ·refine D6 (ge (ge (be (gn (have hk := lx hx1 hk; A1 (A4 (pM (.lit _ _ _) ?_)))))))
  refine Ah DE ?_
  refine AX ?_
  refine pA (.bool _) (pE (gn (Av ?_)))
  cases hk; exact AT hO
def NG (aList1 : List Aa) (x2 : Int) (c3 : Aa) : Int → Option (Int ⊕ (Int ⊕ Bool)) := fun s =>
 (bif decide (s < x2) then ((AL aList1 s).bind fun c9 => (bif (c9.Switch == c3.Switch) then (((some false).map Sum.inr).map Sum.inr) else some (.inl (BV (s + (1:Int)))))) else ((some (.inl (BV (x2 + (1:Int))))).map Sum.inr))
def NF (aP0 : AQ) (aList1 : List Aa) : Int → Option (Int ⊕ Bool) := fun s =>
 (bif decide (s < (aList1.length : Int)) then ((AL aList1 s).bind fun c3 => ((U1 c3.Switch (0:Int) (BV ((aP0.A7.length : Int) - (1:Int)))).bind fun v5 => ((bif !v5 then some true else ((U1 c3.EZ (1:Int) (2:Int)).bind fun v7 => some (!v7))).bind fun t6 => (bif t6 then ((some false).map Sum.inr) else (AJ (NG aList1 s c3) ((0:Int))))))) else ((some (decide ((aList1.length : Int) ≤ (30:Int)))).map Sum.inr))
def WK (aP0 : AQ) (aList1 : List Aa) : Option Bool :=
 (AJ (NF aP0 aList1) ((0:Int)))
theorem Sd {aP0 : AQ} {aList1 : List Aa} {r : Bool} {l1 l2 m3 l4 m5 l6 : Nat} (hk : WK aP0 aList1 = some r) (hlk : 0 < lk.length := by simp) : Al Tryz.prog hh 129 [.agg (Aj l1 0 l2 m3 l4 m5 aP0), AN l6 0 aList1] H lk = some (.bool r, H) := by
 refine AI Tryz.func129 rfl Tryz.ntmps129 Tryz.results129 rfl rfl fun hO => ?_
 unfold WK at hk
 refine A1 (A4 (Ba (cs := [_, _, _, _, _]) hO CH (fun b1 G hO => ?_)))
 refine pA (.bool _) (pE (gn (A1 (A1 (A4 ?_)))))
 refine pM (.lit _ _ _) ?_
 refine Ah FC ?_
 refine pM (.int _ _) (pE (gn (BQ ?_)))
 refine AD (F := NF aP0 aList1) (fun s S' => ∃ (J : Nat → V) (G : A3), A6 H G [.Ad b1 (.cells 5 (Aj l1 0 l2 m3 l4 m5 aP0))] ∧ S' = ⟨CO [(1, AN l6 0 aList1), (2, .ptr b1 0), (8, AN l6 0 aList1), (9, iv (aList1.length : Int)), (10, iv s)] J, G⟩) hk ⟨_, _, hO, sh⟩ ?_
 rintro x2 _ y1 ⟨J, G, hO, rfl⟩ hk hx1
 refine A1 (A4 (AX (pE (gn (A1 (Aq hk (fun hk => ?_) (fun hk => ?_)))))))
 ·refine As (gn (A1 (BQ (A1 (A4 (pM (.int _ _) (bk hk fun c3 hc3 hk => ?_)))))))
  refine pX hc3 Dl BD ?_
  refine By (.agg [_, _]) (GG (lm := 0) (off := 0) hc3 GA BD) (C7 hO BD FZ (fun b4 G hO => ?_))
  refine pA (.int _ _) ?_
  refine Cl (xs := [_, _]) hO 0 BD rfl (fun G hO => pE (gn (A1 (A1 (A4 ?_)))))
  refine Au CR hO 0 (.int _ _) BW ?_
  refine Au Dg hO 1 (.lit _ _ _) BC ?_
  refine Ah DE ?_
  refine AX (bk hk fun v5 hv5 hk => ?_)
  refine AR (fun _ => Ei hv5) ?_
  refine pU ?_
  refine pM (.bool _) (bk hk fun t6 ht hk => ?_)
  refine AU (l1 := [_, _, _, _, _]) [24, 25, 26, 27, 28] 28 (.bool t6) ?_ ?_
  ·refine bc (b := !v5) (fun hg => ?_) (fun hg => ?_)
   ·replace hk := ct hg ht
    refine AG hg (AG hg (AG hg (AG hg (Cv hg (.bool _) ?_))))
    cases hk; exact pE ek
   ·replace hk := cf hg ht
    refine AF hg (pF EC (AF hg ?_))
    refine CP hO 0 (.int _ _) BW (AF hg (bk hk fun v7 hv7 hk => ?_))
    refine AR (fun _ => Ei hv7) (AF hg ?_)
    refine pU ?_
    refine Cu hg (.bool _) ?_
    cases hk; exact pE ek
  ·intro J
   refine pE (gn (Aq hk (fun hk => ?_) (fun hk => ?_)))
   ·refine A1 (A4 (pA (.bool _) (pE (gn (Av (gr (br (gr (gr (br (gr (have hk := lx hx1 hk; ?_))))))))))))
    cases hk; exact AT hO
   ·refine As (gn (A1 (A4 (pA (.int _ _) (pE (gn (BQ ?_)))))))
    refine AD (F := NG aList1 x2 c3) (fun s S' => ∃ (J : Nat → V) (G : A3), A6 H G [.Ad b4 (.cells 2 [iv c3.Switch, iv c3.EZ]), .Ad b1 (.cells 5 (Aj l1 0 l2 m3 l4 m5 aP0))] ∧ S' = ⟨CO [(1, AN l6 0 aList1), (2, .ptr b1 0), (5, iv x2), (6, .ptr b4 0), (7, iv s), (8, AN l6 0 aList1), (9, iv (aList1.length : Int)), (10, iv x2)] J, G⟩) hk ⟨_, _, hO, sh⟩ ?_
    rintro x8 _ y2 ⟨J, G, hO, rfl⟩ hk hx2
    refine A1 (A1 (A4 (pM (.int _ _) ?_)))
    refine pM (.int _ _) ?_
    refine AX (pE (gn (Aq hk (fun hk => ?_) (fun hk => ?_))))
    ·refine As (gn (A1 (BQ (A1 (BG [(0, true), (1, true), (2, true), (3, true), (4, true), (5, true), (6, true), (7, false)] [_, _, _, _, _, _, _, _] (by decide +kernel) (by rfl) ?_)))))
     refine pM (.lit _ _ _) ?_
     refine pM (.int _ _) (bk hk fun c9 hc9 hk => ?_)
     refine pX hc9 Dl BD ?_
     refine pF CR ?_
     refine By (.int _ _) (D7 (lm := 0) (off := 0) hc9 BW) ?_
     refine Au CR hO 0 (.int _ _) BW ?_
     refine AX (pE (gn (Aq hk (fun hk => ?_) (fun hk => ?_))))
     ·refine A1 (A4 (pA (.bool _) (pE (gn (Av (br (gr (gr (br (br (gr (gr (br (gr (have hk := lx hx2 hk; have hk := lx hx1 hk; ?_)))))))))))))))
      cases hk; exact AT hO
     ·refine As (bn (gn (A4 (pM (.int _ _) ?_))))
      refine AX ?_
      refine pA (.int _ _) (pE (gn ?_))
      cases hk; exact ⟨_, rfl, _, _, hO, sh⟩
    ·refine D6 (ge (ge (be (bn (gn (have hk := lx hx2 hk; A4 (AX ?_)))))))
     refine pM (.int _ _) (pE (gn ?_))
     cases hk; exact ⟨_, rfl, _, _, (pk hO [1]), sh⟩
 ·refine D6 (ge (ge (be (gn (have hk := lx hx1 hk; A1 (A4 (pM (.lit _ _ _) ?_)))))))
  refine Ah FC ?_
  refine AX ?_
  refine pA (.bool _) (pE (gn (Av ?_)))
  cases hk; exact AT hO
def OU (aB1 : List Int) (x1 : Int) (c2 : Int) : Int → Option (Int ⊕ (Int ⊕ Bool)) := fun s =>
 (bif decide (s < (aB1.length : Int)) then ((AL aB1 s).bind fun c4 => (bif (c2 == c4) then (((some true).map Sum.inr).map Sum.inr) else some (.inl (BV (s + (1:Int)))))) else ((some (.inl (BV (x1 + (1:Int))))).map Sum.inr))
def RS (aA0 : List Int) (aB1 : List Int) : Int → Option (Int ⊕ Bool) := fun s =>
 (bif decide (s < (aA0.length : Int)) then ((AL aA0 s).bind fun c2 => (AJ (OU aB1 s c2) ((0:Int)))) else ((some false).map Sum.inr))
def Xr (aA0 : List Int) (aB1 : List Int) : Option Bool :=
 (AJ (RS aA0 aB1) ((0:Int)))
theorem IF {aA0 : List Int} {aB1 : List Int} {r : Bool} {l1 l2 : Nat} (hk : Xr aA0 aB1 = some r) (hlk : 0 < lk.length := by simp) : Al Tryz.prog hh 89 [AN l1 0 aA0, AN l2 0 aB1] H lk = some (.bool r, H) := by
 refine AI Tryz.func89 rfl Tryz.ntmps89 Tryz.results89 rfl rfl fun hO => ?_
 unfold Xr at hk
 refine A1 (A4 (pA (.bool _) (pE (gn (A1 (A1 (A4 ?_)))))))
 refine pM (.lit _ _ _) ?_
 refine Ah DE ?_
 refine pM (.int _ _) (pE (gn (BQ ?_)))
 refine AD (F := RS aA0 aB1) (fun s S' => ∃ (J : Nat → V) (G : A3), A6 H G [] ∧ S' = ⟨CO [(1, AN l2 0 aB1), (9, AN l1 0 aA0), (10, iv (aA0.length : Int)), (11, iv s)] J, G⟩) hk ⟨_, _, hO, sh⟩ ?_
 rintro x1 _ y1 ⟨J, G, hO, rfl⟩ hk hx1
 refine A1 (A4 (AX (pE (gn (A1 (Aq hk (fun hk => ?_) (fun hk => ?_)))))))
 ·refine As (gn (A1 (BQ (A1 (A4 (bk hk fun c2 hc2 hk => pX hc2 C8 DS ?_))))))
  refine By (.int _ _) (D7 (lm := 0) (off := 0) hc2 BW) ?_
  refine pA (.int _ _) (pE (gn (A1 (A4 ?_))))
  refine pM (.lit _ _ _) ?_
  refine Ah DE ?_
  refine pM (.int _ _) (pE (gn (BQ ?_)))
  refine AD (F := OU aB1 x1 c2) (fun s S' => ∃ (J : Nat → V) (G : A3), A6 H G [] ∧ S' = ⟨CO [(1, AN l2 0 aB1), (6, iv c2), (9, AN l1 0 aA0), (10, iv (aA0.length : Int)), (11, iv x1), (15, AN l2 0 aB1), (16, iv (aB1.length : Int)), (17, iv s)] J, G⟩) hk ⟨_, _, hO, sh⟩ ?_
  rintro x3 _ y2 ⟨J, G, hO, rfl⟩ hk hx2
  refine A1 (A4 (AX (pE (gn (A1 (Aq hk (fun hk => ?_) (fun hk => ?_)))))))
  ·refine As (gn (A1 (BQ (A1 (A4 (bk hk fun c4 hc4 hk => pX hc4 C8 DS ?_))))))
   refine By (.int _ _) (D7 (lm := 0) (off := 0) hc4 BW) ?_
   refine pA (.int _ _) (pE (gn (A1 (A4 ?_))))
   refine pM (.int _ _) ?_
   refine pM (.int _ _) ?_
   refine AX (pE (gn (Aq hk (fun hk => ?_) (fun hk => ?_))))
   ·refine A1 (A4 (pA (.bool _) (pE (gn (Av (br (gr (gr (br (br (gr (gr (br (gr (have hk := lx hx2 hk; have hk := lx hx1 hk; ?_)))))))))))))))
    cases hk; exact AT hO
   ·refine As (bn (gn (A4 (AX ?_))))
    refine pM (.int _ _) (pE (gn ?_))
    cases hk; exact ⟨_, rfl, _, _, hO, sh⟩
  ·refine D6 (ge (ge (be (bn (gn (have hk := lx hx2 hk; A4 (AX ?_)))))))
   refine pM (.int _ _) (pE (gn ?_))
   cases hk; exact ⟨_, rfl, _, _, hO, sh⟩
 ·refine D6 (ge (ge (be (gn (have hk := lx hx1 hk; A1 (A4 (pA (.bool _) (pE (gn (Av ?_))))))))))
  cases hk; exact AT hO
def Ji (aP0 : AQ) (aW1 : Bu) (x13 : Int) (c14 : Aa) : Int → Option (Int ⊕ (Int ⊕ Bool)) := fun s =>
 (bif decide (s < (aW1.AB.length : Int)) then ((AL aW1.AB s).bind fun c17 => (bif (c14.Switch == c17.Switch) then (((some false).map Sum.inr).map Sum.inr) else some (.inl (BV (s + (1:Int)))))) else (((AL aP0.A7 c14.Switch).bind fun c19 => ((Xr ([c19] : List Int) aW1.A0).bind fun v20 => (bif !v20 then ((some false).map Sum.inr) else some (.inl (BV (x13 + (1:Int))))))).map Sum.inr))
def Ks (aP0 : AQ) (aW1 : Bu) : Int → Option (Int ⊕ Bool) := fun s =>
 (bif decide (s < (aW1.AO.length : Int)) then ((AL aW1.AO s).bind fun c14 => (AJ (Ji aP0 aW1 s c14) ((0:Int)))) else (((Xr aW1.BY aW1.A0).bind fun v21 => some (!v21)).map Sum.inr))
def XW (aP0 : AQ) (aW1 : Bu) : Option Bool :=
 ((bif ((aW1.A0.length : Int) == (0:Int)) then some true else ((Ty aW1.A0 aP0.A0).bind fun v4 => some (!v4))).bind fun t3 => ((bif t3 then some true else ((Ty aW1.BY aP0.A0).bind fun v6 => some (!v6))).bind fun t5 => ((bif t5 then some true else ((Ty aW1.DF aP0.A0).bind fun v8 => some (!v8))).bind fun t7 => ((bif t7 then some true else ((WK aP0 aW1.AO).bind fun v10 => some (!v10))).bind fun t9 => ((bif t9 then some true else ((WK aP0 aW1.AB).bind fun v12 => some (!v12))).bind fun t11 => (bif t11 then some false else (AJ (Ks aP0 aW1) ((0:Int)))))))))
theorem XX {aP0 : AQ} {aW1 : Bu} {r : Bool} {l1 l2 m3 l4 m5 l6 l7 l8 l9 l10 : Nat} (hk : XW aP0 aW1 = some r) (hlk : 0 < lk.length := by simp) : Al Tryz.prog hh 120 [.agg (Aj l1 0 l2 m3 l4 m5 aP0), .agg (Cq l6 0 l7 0 l8 0 l9 0 l10 0 aW1)] H lk = some (.bool r, H) := by
 refine AI Tryz.func120 rfl Tryz.ntmps120 Tryz.results120 rfl rfl fun hO => ?_
 unfold XW at hk
 refine A1 (A4 (Ba (cs := [_, _, _, _, _]) hO CH (fun b1 G hO => ?_)))
 refine Ba (cs := [_, _, _, _, _]) hO B1 (fun b2 G hO => ?_)
 refine pA (.bool _) (pE (gn (A1 (A1 (A4 ?_)))))
 refine Au BL hO 0 (.lit _ _ _) BC ?_
 refine Ah DE ?_
 refine AX ?_
 refine pM (.bool _) (bk hk fun t3 ht hk => ?_)
 refine AU (l1 := [_, _, _, _, _, _, _]) [14, 15, 16, 17, 18, 19, 20] 20 (.bool t3) ?_ ?_
 ·refine bc (b := ((aW1.A0.length : Int) == (0:Int))) (fun hg => ?_) (fun hg => ?_)
  ·replace hk := ct hg ht
   refine AG hg (AG hg (AG hg (AG hg (AG hg (AG hg (Cv hg (.bool _) ?_))))))
   cases hk; exact pE ek
  ·replace hk := cf hg ht
   refine AF hg (pF BL (AF hg ?_))
   refine CP hO 0 (.lit _ _ _) BC (AF hg ?_)
   refine pF EO (AF hg ?_)
   refine CP hO 1 (.int _ _) BW (AF hg (bk hk fun v4 hv4 hk => ?_))
   refine AR (fun _ => Nr hv4) (AF hg ?_)
   refine pU ?_
   refine Cu hg (.bool _) ?_
   cases hk; exact pE ek
 ·intro J
  refine pM (.bool _) (bk hk fun t5 ht hk => ?_)
  refine AU (l1 := [_, _, _, _, _, _, _]) [22, 23, 24, 25, 26, 27, 28] 28 (.bool t5) ?_ ?_
  ·refine bc (b := t3) (fun hg => ?_) (fun hg => ?_)
   ·replace hk := ct hg ht
    refine AG hg (AG hg (AG hg (AG hg (AG hg (AG hg (Cv hg (.bool _) ?_))))))
    cases hk; exact pE ek
   ·replace hk := cf hg ht
    refine AF hg (pF DY (AF hg ?_))
    refine CP hO 0 (.lit _ _ _) BC (AF hg ?_)
    refine pF EO (AF hg ?_)
    refine CP hO 1 (.int _ _) BW (AF hg (bk hk fun v6 hv6 hk => ?_))
    refine AR (fun _ => Nr hv6) (AF hg ?_)
    refine pU ?_
    refine Cu hg (.bool _) ?_
    cases hk; exact pE ek
  ·intro J
   refine pM (.bool _) (bk hk fun t7 ht hk => ?_)
   refine AU (l1 := [_, _, _, _, _, _, _]) [30, 31, 32, 33, 34, 35, 36] 36 (.bool t7) ?_ ?_
   ·refine bc (b := t5) (fun hg => ?_) (fun hg => ?_)
    ·replace hk := ct hg ht
     refine AG hg (AG hg (AG hg (AG hg (AG hg (AG hg (Cv hg (.bool _) ?_))))))
     cases hk; exact pE ek
    ·replace hk := cf hg ht
     refine AF hg (pF Jt (AF hg ?_))
     refine CP hO 0 (.lit _ _ _) BC (AF hg ?_)
     refine pF EO (AF hg ?_)
     refine CP hO 1 (.int _ _) BW (AF hg (bk hk fun v8 hv8 hk => ?_))
     refine AR (fun _ => Nr hv8) (AF hg ?_)
     refine pU ?_
     refine Cu hg (.bool _) ?_
     cases hk; exact pE ek
   ·intro J
    refine pM (.bool _) (bk hk fun t9 ht hk => ?_)
    refine AU (l1 := [_, _, _, _, _, _]) [38, 39, 40, 41, 42, 43] 43 (.bool t9) ?_ ?_
    ·refine bc (b := t7) (fun hg => ?_) (fun hg => ?_)
     ·replace hk := ct hg ht
      refine AG hg (AG hg (AG hg (AG hg (AG hg (Cv hg (.bool _) ?_)))))
      cases hk; exact pE ek
     ·replace hk := cf hg ht
      refine AF hg (Dw hO 1 [_, _, _, _, _] FG CH (AF hg ?_))
      refine pF EB (AF hg ?_)
      refine CP hO 0 (.lit _ _ _) Df (AF hg (bk hk fun v10 hv10 hk => ?_))
      refine AR (fun _ => Sd hv10) (AF hg ?_)
      refine pU ?_
      refine Cu hg (.bool _) ?_
      cases hk; exact pE ek
    ·intro J
     refine pM (.bool _) (bk hk fun t11 ht hk => ?_)
     refine AU (l1 := [_, _, _, _, _, _]) [45, 46, 47, 48, 49, 50] 50 (.bool t11) ?_ ?_
     ·refine bc (b := t9) (fun hg => ?_) (fun hg => ?_)
      ·replace hk := ct hg ht
       refine AG hg (AG hg (AG hg (AG hg (AG hg (Cv hg (.bool _) ?_)))))
       cases hk; exact pE ek
      ·replace hk := cf hg ht
       refine AF hg (Dw hO 1 [_, _, _, _, _] FG CH (AF hg ?_))
       refine pF EX (AF hg ?_)
       refine CP hO 0 (.lit _ _ _) Df (AF hg (bk hk fun v12 hv12 hk => ?_))
       refine AR (fun _ => Sd hv12) (AF hg ?_)
       refine pU ?_
       refine Cu hg (.bool _) ?_
       cases hk; exact pE ek
     ·intro J
      refine pE (gn (Aq hk (fun hk => ?_) (fun hk => ?_)))
      ·refine A1 (A4 (pA (.bool _) (pE (gn (Av (gr ?_))))))
       cases hk; exact AT hO
      ·refine As (gn (A1 (A1 (A4 (Au EB hO 0 (.lit _ _ _) Df ?_)))))
       refine Ah FC ?_
       refine pM (.int _ _) (pE (gn (BQ ?_)))
       refine AD (F := Ks aP0 aW1) (fun s S' => ∃ (J : Nat → V) (G : A3), A6 H G [.Ad b2 (.cells 5 (Cq l6 0 l7 0 l8 0 l9 0 l10 0 aW1)), .Ad b1 (.cells 5 (Aj l1 0 l2 m3 l4 m5 aP0))] ∧ S' = ⟨CO [(2, .ptr b1 0), (3, .ptr b2 0), (52, AN l7 0 aW1.AO), (53, iv (aW1.AO.length : Int)), (54, iv s)] J, G⟩) hk ⟨_, _, hO, sh⟩ ?_
       rintro x13 _ y1 ⟨J, G, hO, rfl⟩ hk hx1
       refine A1 (A4 (AX (pE (gn (A1 (Aq hk (fun hk => ?_) (fun hk => ?_)))))))
       ·refine As (gn (A1 (BQ (A1 (A4 (bk hk fun c14 hc14 hk => pX hc14 Dl BD ?_))))))
        refine By (.agg [_, _]) (GG (lm := 0) (off := 0) hc14 GA BD) (C7 hO BD FZ (fun b15 G hO => ?_))
        refine Cl (xs := [_, _]) hO 0 BD rfl (fun G hO => pE (gn (A1 (A1 (A4 ?_)))))
        refine Au EX hO 1 (.lit _ _ _) Df ?_
        refine Ah FC ?_
        refine pM (.int _ _) (pE (gn (BQ ?_)))
        refine AD (F := Ji aP0 aW1 x13 c14) (fun s S' => ∃ (J : Nat → V) (G : A3), A6 H G [.Ad b15 (.cells 2 [iv c14.Switch, iv c14.EZ]), .Ad b2 (.cells 5 (Cq l6 0 l7 0 l8 0 l9 0 l10 0 aW1)), .Ad b1 (.cells 5 (Aj l1 0 l2 m3 l4 m5 aP0))] ∧ S' = ⟨CO [(2, .ptr b1 0), (3, .ptr b2 0), (6, .ptr b15 0), (52, AN l7 0 aW1.AO), (53, iv (aW1.AO.length : Int)), (54, iv x13), (59, AN l8 0 aW1.AB), (60, iv (aW1.AB.length : Int)), (61, iv s)] J, G⟩) hk ⟨_, _, hO, sh⟩ ?_
        rintro x16 _ y2 ⟨J, G, hO, rfl⟩ hk hx2
        refine A1 (A4 (AX (pE (gn (A1 (Aq hk (fun hk => ?_) (fun hk => ?_)))))))
        ·refine As (gn (A1 (BQ (A1 (A4 (bk hk fun c17 hc17 hk => pX hc17 Dl BD ?_))))))
         refine By (.agg [_, _]) (GG (lm := 0) (off := 0) hc17 GA BD) (C7 hO BD FZ (fun b18 G hO => ?_))
         refine Cl (xs := [_, _]) hO 0 BD rfl (fun G hO => pE (gn (A1 (A4 ?_))))
         refine Au CR hO 1 (.int _ _) BW ?_
         refine Au CR hO 0 (.int _ _) BW ?_
         refine AX (pE (gn (Aq hk (fun hk => ?_) (fun hk => ?_))))
         ·refine A1 (A4 (pA (.bool _) (pE (gn (Av (br (gr (gr (br (gr (br (gr (gr (br (gr (have hk := lx hx2 hk; have hk := lx hx1 hk; ?_))))))))))))))))
          cases hk; exact AT hO
         ·refine As (bn (gn (A4 (AX ?_))))
          refine pM (.int _ _) (pE (gn ?_))
          cases hk; exact ⟨_, rfl, _, _, (pk hO [1, 2, 3]), sh⟩
        ·refine D6 (ge (ge (be (gn (have hk := lx hx2 hk; A1 (BG [(0, true), (1, true), (2, true), (3, true), (4, true), (5, true), (6, true), (7, true), (8, true), (9, false), (10, false)] [_, _, _, _, _, _, _, _, _, _, _] (by decide +kernel) (by rfl) ?_))))))
         refine Au Dg hO 2 (.lit _ _ _) BC ?_
         refine Au CR hO 0 (.int _ _) BW (bk hk fun c19 hc19 hk => ?_)
         refine pX hc19 C8 DS ?_
         refine By (.int _ _) (D7 (lm := 0) (off := 0) hc19 BW) ?_
         refine Uh (ps := [(0, (.int _ _))]) ([c19] : List Int) C8 DS Mx (DI (DJ _ _) (Dm)) ?_
         refine Au BL hO 1 (.lit _ _ _) BC (bk hk fun v20 hv20 hk => ?_)
         refine AR (vs := [(.tl 1 (A9 0 ([c19] : List Int))), (.lit _ _ _)]) (caps := []) (fun _ => IF hv20) ?_ (h3 := (BK (Y9 ([c19] : List Int) 6) (BK rfl EJ)))
         refine pU (pE (gn (Aq hk (fun hk => ?_) (fun hk => ?_))))
         ·refine A1 (A4 (pA (.bool _) (pE (gn (Av (br (gr (gr (br (gr (have hk := lx hx1 hk; ?_)))))))))))
          cases hk; exact AT hO
         ·refine As (bn (gn (A4 (AX ?_))))
          refine pM (.int _ _) (pE (gn ?_))
          cases hk; exact ⟨_, rfl, _, _, (pk hO [1, 2]), sh⟩
       ·refine D6 (ge (ge (be (gn (have hk := lx hx1 hk; A1 (A4 (Au DY hO 0 (.lit _ _ _) BC ?_)))))))
        refine Au BL hO 0 (.lit _ _ _) BC (bk hk fun v21 hv21 hk => ?_)
        refine AR (fun _ => IF hv21) ?_
        refine pU ?_
        refine pA (.bool _) (pE (gn (Av ?_)))
        cases hk; exact AT hO
def N6 (aP0 : AQ) (x15 : Int) (c16 : List Bool) : Int → Option (Int ⊕ (Int ⊕ Be)) := fun s =>
 (bif decide (s < (c16.length : Int)) then ((AL c16 s).bind fun c18 => ((AL aP0.BX s).bind fun c19 => ((AL c19 x15).bind fun c20 => ((bif !(c18 == c20) then some true else ((bif ((x15 != s) && !c18) then ((AL aP0.A5 x15).bind fun c23 => ((AL aP0.A5 s).bind fun c24 => ((Xr c23.A0 c24.A0).bind fun v25 => some v25))) else some false).bind fun t22 => some t22)).bind fun t21 => (bif t21 then (((some ({ Code := (5:Int), At := x15 } : Be)).map Sum.inr).map Sum.inr) else some (.inl (BV (s + (1:Int))))))))) else ((some (.inl (BV (x15 + (1:Int))))).map Sum.inr))
def HB (aP0 : AQ) : Int → Option (Int ⊕ Be) := fun s =>
 (bif decide (s < (aP0.BX.length : Int)) then ((AL aP0.BX s).bind fun c16 => (AJ (N6 aP0 s c16) ((0:Int)))) else ((some ({ Code := 0, At := 0 } : Be)).map Sum.inr))
def Jf (aP0 : AQ) : Int → Option (Int ⊕ Be) := fun s =>
 (bif decide (s < (aP0.BX.length : Int)) then ((AL aP0.BX s).bind fun c14 => (bif ((c14.length : Int) != (aP0.A5.length : Int)) then ((some ({ Code := (4:Int), At := s } : Be)).map Sum.inr) else some (.inl (BV (s + (1:Int)))))) else ((AJ (HB aP0) ((0:Int))).map Sum.inr))
def Je (aP0 : AQ) : Int → Option (Int ⊕ Be) := fun s =>
 (bif decide (s < (aP0.A5.length : Int)) then ((AL aP0.A5 s).bind fun c10 => ((XW aP0 c10).bind fun v12 => (bif !v12 then ((some ({ Code := (3:Int), At := s } : Be)).map Sum.inr) else some (.inl (BV (s + (1:Int))))))) else ((bif ((aP0.BX.length : Int) != (aP0.A5.length : Int)) then some ({ Code := (4:Int), At := 0 } : Be) else (AJ (Jf aP0) ((0:Int)))).map Sum.inr))
def I7 (aP0 : AQ) : Int → Option (Int ⊕ Be) := fun s =>
 (bif decide (s < (aP0.A7.length : Int)) then ((AL aP0.A7 s).bind fun c7 => ((U1 c7 (0:Int) (BV (aP0.A0 - (1:Int)))).bind fun v8 => (bif !v8 then ((some ({ Code := (2:Int), At := s } : Be)).map Sum.inr) else some (.inl (BV (s + (1:Int))))))) else ((AJ (Je aP0) ((0:Int))).map Sum.inr))
def SV (aP0 : AQ) : Option Be :=
 ((U1 aP0.A0 (1:Int) (60:Int)).bind fun v3 => ((bif ((!v3 || decide ((aP0.A7.length : Int) > (40:Int))) || decide ((aP0.A5.length : Int) > (100:Int))) then some true else ((U1 aP0.ED (1:Int) (300:Int)).bind fun v5 => some (!v5))).bind fun t4 => (bif t4 then some ({ Code := (1:Int), At := 0 } : Be) else (AJ (I7 aP0) ((0:Int))))))
theorem XJ {aP0 : AQ} {r : Be} {l1 l2 m3 l4 m5 : Nat} (hk : SV aP0 = some r) (hlk : 0 < lk.length := by simp) : Al Tryz.prog hh 104 [.agg (Aj l1 0 l2 m3 l4 m5 aP0)] H lk = some (.agg [iv r.Code, iv r.At], H) := by
 refine AI Tryz.func104 rfl Tryz.ntmps104 Tryz.results104 rfl rfl fun hO => ?_
 unfold SV at hk
 refine A1 (A4 (Ba (cs := [_, _, _, _, _]) hO CH (fun b1 G hO => C7 hO D2 Fa (fun b2 G hO => pE (gn (A1 (A1 (A4 ?_))))))))
 refine Au EO hO 1 (.int _ _) BW (bk hk fun v3 hv3 hk => ?_)
 refine AR (fun _ => Ei hv3) ?_
 refine pU ?_
 refine pM (.bool _) ?_
 refine AU (l1 := [_, _, _, _, _]) [18, 19, 20, 21, 22] 22 (.bool (!v3 || decide ((aP0.A7.length : Int) > (40:Int)))) ?_ ?_
 ·refine bc (b := !v3) (fun hg => ?_) (fun hg => ?_)
  ·refine AG hg (AG hg (AG hg (AG hg (Cv hg (.bool _) ?_))))
   exact pE (ek (by rw [hg]; rfl))
  ·refine AF hg (pF Dg (AF hg ?_))
   refine CP hO 1 (.lit _ _ _) BC (AF hg ?_)
   refine Ah DE (AF hg ?_)
   refine AX ?_
   refine Cu hg (.bool _) ?_
   exact pE (ek (by rw [hg]; rfl))
 ·intro J
  refine pM (.bool _) ?_
  refine AU (l1 := [_, _, _, _, _]) [24, 25, 26, 27, 28] 28 (.bool ((!v3 || decide ((aP0.A7.length : Int) > (40:Int))) || decide ((aP0.A5.length : Int) > (100:Int)))) ?_ ?_
  ·refine bc (b := (!v3 || decide ((aP0.A7.length : Int) > (40:Int)))) (fun hg => ?_) (fun hg => ?_)
   ·refine AG hg (AG hg (AG hg (AG hg (Cv hg (.bool _) ?_))))
    exact pE (ek (by rw [hg]; rfl))
   ·refine AF hg (pF Bk (AF hg ?_))
    refine CP hO 1 (.lit _ _ _) Du (AF hg ?_)
    refine Ah I2 (AF hg ?_)
    refine AX ?_
    refine Cu hg (.bool _) ?_
    exact pE (ek (by rw [hg]; rfl))
  ·intro J
   refine pM (.bool _) (bk hk fun t4 ht hk => ?_)
   refine AU (l1 := [_, _, _, _, _]) [30, 31, 32, 33, 34] 34 (.bool t4) ?_ ?_
   ·refine bc (b := ((!v3 || decide ((aP0.A7.length : Int) > (40:Int))) || decide ((aP0.A5.length : Int) > (100:Int)))) (fun hg => ?_) (fun hg => ?_)
    ·replace hk := ct hg ht
     refine AG hg (AG hg (AG hg (AG hg (Cv hg (.bool _) ?_))))
     cases hk; exact pE ek
    ·replace hk := cf hg ht
     refine AF hg (pF KY (AF hg ?_))
     refine CP hO 1 (.int _ _) BW (AF hg (bk hk fun v5 hv5 hk => ?_))
     refine AR (fun _ => Ei hv5) (AF hg ?_)
     refine pU ?_
     refine Cu hg (.bool _) ?_
     cases hk; exact pE ek
   ·intro J
    refine pE (gn (Aq hk (fun hk => ?_) (fun hk => ?_)))
    ·refine A1 (A4 (Q2 [_, _] Fa Gx ?_))
     refine Cl (xs := [_, _]) hO 0 D2 rfl (fun G hO => pE (gn (Av (gr ?_))))
     replace hk := Option.some.inj hk; subst hk; exact Gz hO (Dr (n := 2) (DN (CB _ _) (DN (CB _ _) (Ho)))) (FW hO 0 [_, _] HQ D2 Dt)
    ·refine As (gn (A1 (A1 (A4 (Au Dg hO 1 (.lit _ _ _) BC ?_)))))
     refine Ah DE ?_
     refine pM (.int _ _) (pE (gn (BQ ?_)))
     refine AD (F := I7 aP0) (fun s S' => ∃ (J : Nat → V) (G : A3), A6 H G [.Ad b2 (.cells 2 [iv 0, iv 0]), .Ad b1 (.cells 5 (Aj l1 0 l2 m3 l4 m5 aP0))] ∧ S' = ⟨CO [(1, .ptr b1 0), (2, .ptr b2 0), (37, AN l1 0 aP0.A7), (38, iv (aP0.A7.length : Int)), (39, iv s)] J, G⟩) hk ⟨_, _, hO, sh⟩ ?_
     rintro x6 _ y1 ⟨J, G, hO, rfl⟩ hk hx1
     refine A1 (A4 (AX (pE (gn (A1 (Aq hk (fun hk => ?_) (fun hk => ?_)))))))
     ·refine As (gn (A1 (BQ (A1 (A4 (pM (.int _ _) (bk hk fun c7 hc7 hk => ?_)))))))
      refine pX hc7 C8 DS ?_
      refine By (.int _ _) (D7 (lm := 0) (off := 0) hc7 BW) ?_
      refine pA (.int _ _) ?_
      refine pA (.int _ _) (pE (gn (A1 (A4 ?_))))
      refine pM (.int _ _) ?_
      refine Au EO hO 1 (.int _ _) BW ?_
      refine AX (bk hk fun v8 hv8 hk => ?_)
      refine AR (fun _ => Ei hv8) ?_
      refine pU (pE (gn (Aq hk (fun hk => ?_) (fun hk => ?_))))
      ·refine A1 (A4 (pM (.int _ _) ?_))
       refine Q2 [_, _] Fa Gx ?_
       refine Cl (xs := [_, _]) hO 0 D2 rfl (fun G hO => pE (gn (Av (br (gr (gr (br (gr (have hk := lx hx1 hk; ?_)))))))))
       replace hk := Option.some.inj hk; subst hk; exact Gz hO (Dr (n := 2) (DN (CB _ _) (DN (CB _ _) (Ho)))) (FW hO 0 [_, _] HQ D2 Dt)
      ·refine As (bn (gn (A4 (AX ?_))))
       refine pM (.int _ _) (pE (gn ?_))
       cases hk; exact ⟨_, rfl, _, _, hO, sh⟩
     ·refine D6 (ge (ge (be (gn (have hk := lx hx1 hk; A1 (A1 (A4 (Au Bk hO 1 (.lit _ _ _) Du ?_))))))))
      refine Ah I2 ?_
      refine pM (.int _ _) (pE (gn (BQ ?_)))
      refine AD (F := Je aP0) (fun s S' => ∃ (J : Nat → V) (G : A3), A6 H G [.Ad b2 (.cells 2 [iv 0, iv 0]), .Ad b1 (.cells 5 (Aj l1 0 l2 m3 l4 m5 aP0))] ∧ S' = ⟨CO [(1, .ptr b1 0), (2, .ptr b2 0), (54, AN l2 m3 aP0.A5), (55, iv (aP0.A5.length : Int)), (56, iv s)] J, G⟩) hk ⟨_, _, hO, sh⟩ ?_
      rintro x9 _ y1 ⟨J, G, hO, rfl⟩ hk hx1
      refine A1 (A4 (AX (pE (gn (A1 (Aq hk (fun hk => ?_) (fun hk => ?_)))))))
      ·refine As (gn (A1 (BQ (A1 (A4 (pM (.int _ _) (bk hk fun c10 hc10 hk => ?_)))))))
       refine pX hc10 Ex B1 ?_
       refine By (.agg [_, _, _, _, _]) (GG (lm := m3) (off := 0) hc10 FB B1) (C7 hO B1 Ir (fun b11 G hO => ?_))
       refine pA (.int _ _) ?_
       refine Cl (xs := [_, _, _, _, _]) hO 0 B1 rfl (fun G hO => pE (gn (A1 (A4 ?_))))
       refine Dw hO 2 [_, _, _, _, _] FG CH ?_
       refine Dw hO 0 [_, _, _, _, _] FB B1 (bk hk fun v12 hv12 hk => ?_)
       refine AR (fun _ => XX hv12) ?_
       refine pU (pE (gn (Aq hk (fun hk => ?_) (fun hk => ?_))))
       ·refine A1 (A4 (pM (.int _ _) ?_))
        refine Q2 [_, _] Fa Gx ?_
        refine Cl (xs := [_, _]) hO 1 D2 rfl (fun G hO => pE (gn (Av (br (gr (gr (br (gr (have hk := lx hx1 hk; ?_)))))))))
        replace hk := Option.some.inj hk; subst hk; exact Gz hO (Dr (n := 2) (DN (CB _ _) (DN (CB _ _) (Ho)))) (FW hO 1 [_, _] HQ D2 Dt)
       ·refine As (bn (gn (A4 (AX ?_))))
        refine pM (.int _ _) (pE (gn ?_))
        cases hk; exact ⟨_, rfl, _, _, (pk hO [1, 2]), sh⟩
      ·refine D6 (ge (ge (be (gn (have hk := lx hx1 hk; A1 (A1 (A4 (Au EP hO 1 (.lit _ _ _) It ?_))))))))
       refine Ah MX ?_
       refine Au Bk hO 1 (.lit _ _ _) Du ?_
       refine Ah I2 ?_
       refine AX (pE (gn (Aq hk (fun hk => ?_) (fun hk => ?_))))
       ·refine A1 (A4 (Q2 [_, _] Fa Gx ?_))
        refine Cl (xs := [_, _]) hO 0 D2 rfl (fun G hO => pE (gn (Av (gr ?_))))
        replace hk := Option.some.inj hk; subst hk; exact Gz hO (Dr (n := 2) (DN (CB _ _) (DN (CB _ _) (Ho)))) (FW hO 0 [_, _] HQ D2 Dt)
       ·refine As (gn (A1 (A1 (A4 (Au EP hO 1 (.lit _ _ _) It ?_)))))
        refine Ah MX ?_
        refine pM (.int _ _) (pE (gn (BQ ?_)))
        refine AD (F := Jf aP0) (fun s S' => ∃ (J : Nat → V) (G : A3), A6 H G [.Ad b2 (.cells 2 [iv 0, iv 0]), .Ad b1 (.cells 5 (Aj l1 0 l2 m3 l4 m5 aP0))] ∧ S' = ⟨CO [(1, .ptr b1 0), (2, .ptr b2 0), (77, AN l4 m5 aP0.BX), (78, iv (aP0.BX.length : Int)), (79, iv s)] J, G⟩) hk ⟨_, _, hO, sh⟩ ?_
        rintro x13 _ y1 ⟨J, G, hO, rfl⟩ hk hx1
        refine A1 (A4 (AX (pE (gn (A1 (Aq hk (fun hk => ?_) (fun hk => ?_)))))))
        ·refine As (gn (A1 (BQ (A1 (A4 (pM (.int _ _) (bk hk fun c14 hc14 hk => ?_)))))))
         refine pX hc14 Iu GI ?_
         refine By (.lit _ _ _) (D7 (lm := m5) (off := 0) hc14 CC) ?_
         refine pA (.int _ _) ?_
         refine pA (.lit _ _ _) (pE (gn (A1 (A4 ?_))))
         refine pM (.lit _ _ _) ?_
         refine Ah Hd ?_
         refine Au Bk hO 1 (.lit _ _ _) Du ?_
         refine Ah I2 ?_
         refine AX (pE (gn (Aq hk (fun hk => ?_) (fun hk => ?_))))
         ·refine A1 (A4 (pM (.int _ _) ?_))
          refine Q2 [_, _] Fa Gx ?_
          refine Cl (xs := [_, _]) hO 0 D2 rfl (fun G hO => pE (gn (Av (br (gr (gr (br (gr (have hk := lx hx1 hk; ?_)))))))))
          replace hk := Option.some.inj hk; subst hk; exact Gz hO (Dr (n := 2) (DN (CB _ _) (DN (CB _ _) (Ho)))) (FW hO 0 [_, _] HQ D2 Dt)
         ·refine As (bn (gn (A4 (AX ?_))))
          refine pM (.int _ _) (pE (gn ?_))
          cases hk; exact ⟨_, rfl, _, _, hO, sh⟩
        ·refine D6 (ge (ge (be (gn (have hk := lx hx1 hk; A1 (A1 (A4 (Au EP hO 1 (.lit _ _ _) It ?_))))))))
         refine Ah MX ?_
         refine pM (.int _ _) (pE (gn (BQ ?_)))
         refine AD (F := HB aP0) (fun s S' => ∃ (J : Nat → V) (G : A3), A6 H G [.Ad b2 (.cells 2 [iv 0, iv 0]), .Ad b1 (.cells 5 (Aj l1 0 l2 m3 l4 m5 aP0))] ∧ S' = ⟨CO [(1, .ptr b1 0), (2, .ptr b2 0), (94, AN l4 m5 aP0.BX), (95, iv (aP0.BX.length : Int)), (96, iv s)] J, G⟩) hk ⟨_, _, hO, sh⟩ ?_
         rintro x15 _ y1 ⟨J, G, hO, rfl⟩ hk hx1
         refine A1 (A4 (AX (pE (gn (A1 (Aq hk (fun hk => ?_) (fun hk => ?_)))))))
         ·refine As (gn (A1 (BQ (A1 (A4 (pM (.int _ _) (bk hk fun c16 hc16 hk => ?_)))))))
          refine pX hc16 Iu GI ?_
          refine By (.lit _ _ _) (D7 (lm := m5) (off := 0) hc16 CC) ?_
          refine pA (.int _ _) ?_
          refine pA (.lit _ _ _) (pE (gn (A1 (A4 ?_))))
          refine pM (.lit _ _ _) ?_
          refine Ah Hd ?_
          refine pM (.int _ _) (pE (gn (BQ ?_)))
          refine AD (F := N6 aP0 x15 c16) (fun s S' => ∃ (J : Nat → V) (G : A3), A6 H G [.Ad b2 (.cells 2 [iv 0, iv 0]), .Ad b1 (.cells 5 (Aj l1 0 l2 m3 l4 m5 aP0))] ∧ S' = ⟨CO [(1, .ptr b1 0), (2, .ptr b2 0), (9, iv x15), (94, AN l4 m5 aP0.BX), (95, iv (aP0.BX.length : Int)), (96, iv x15), (101, AN m5 0 c16), (102, iv (c16.length : Int)), (103, iv s)] J, G⟩) hk ⟨_, _, hO, sh⟩ ?_
          rintro x17 _ y2 ⟨J, G, hO, rfl⟩ hk hx2
          refine A1 (A4 (AX (pE (gn (A1 (Aq hk (fun hk => ?_) (fun hk => ?_)))))))
          ·refine As (gn (A1 (BQ (A1 (A4 (pM (.int _ _) (bk hk fun c18 hc18 hk => ?_)))))))
           refine pX hc18 Cn FU ?_
           refine By (.bool _) (D7 (lm := 0) (off := 0) hc18 Fv) ?_
           refine pA (.int _ _) ?_
           refine pA (.bool _) (pE (gn (A1 ?_)))
           refine BG [(0, true), (1, false), (2, true), (3, true), (4, false), (5, true), (6, true), (7, false), (8, true), (9, false), (10, false), (11, false), (12, false), (13, false), (14, false), (15, false), (16, false), (17, false), (18, false), (19, true), (20, true), (21, true), (22, true), (23, true), (24, true), (25, true), (26, true), (27, true), (28, true), (29, true), (30, true), (31, false), (32, false), (33, false)] [_, _, _, _, _, _, _, _, _, _, _, _, _, _, _, _, _, _, _, _, _, _, _, _, _, _, _, _, _, _, _, _, _, _] (by decide +kernel) (by rfl) ?_
           refine pM (.bool _) ?_
           refine Au EP hO 1 (.lit _ _ _) It ?_
           refine pM (.int _ _) (bk hk fun c19 hc19 hk => ?_)
           refine pX hc19 Iu GI ?_
           refine By (.lit _ _ _) (D7 (lm := m5) (off := 0) hc19 CC) ?_
           refine pM (.int _ _) (bk hk fun c20 hc20 hk => ?_)
           refine pX hc20 Cn FU ?_
           refine By (.bool _) (D7 (lm := 0) (off := 0) hc20 Fv) ?_
           refine bG Tryz.underlying4 ?_
           refine pM (.bool _) (bk hk fun t21 ht hk => ?_)
           refine AU (l1 := [_, _, _, _, _, _, _, _, _, _, _, _, _, _, _, _, _, _, _, _, _, _, _]) [119, 120, 121, 122, 123, 124, 125, 126, 127, 128, 129, 130, 131, 132, 133, 134, 135, 136, 137, 138, 139, 140, 141] 141 (.bool t21) ?_ ?_
           ·refine bc (b := !(c18 == c20)) (fun hg => ?_) (fun hg => ?_)
            ·replace hk := ct hg ht
             refine AG hg (AG hg (AG hg (AG hg (CY (CY (AG hg (AG hg (CY (CY (CY (CY (CY (CY (CY (CY (CY (CY (CY (CY (CY (AG hg (Cv hg (.bool _) ?_))))))))))))))))))))))
             cases hk; exact pE ek
            ·replace hk := cf hg ht
             refine AF hg (pM (.int _ _) (AF hg ?_))
             refine pM (.int _ _) (AF hg ?_)
             refine AX (AF hg ?_)
             refine pM (.bool _) ?_
             refine AU (l1 := [_, _, _]) [123, 124, 125] 125 (.bool ((x15 != x17) && !c18)) ?_ ?_
             ·refine bc (b := (x15 != x17)) (fun hg2 => ?_) (fun hg2 => ?_)
              ·refine AF hg2 (pM (.bool _) (AF hg2 ?_))
               refine pU (AF hg ?_)
               refine Cv hg2 (.bool _) ?_
               exact pE (ek (by rw [hg2]; rfl))
              ·refine AG hg2 (AG hg2 (AF hg (Cu hg2 (.bool _) ?_)))
               exact pE (ek (by rw [hg2]; rfl))
             ·intro J
              refine AF hg (pM (.bool _) (bk hk fun t22 ht hk => ?_))
              refine AU (l1 := [_, _, _, _, _, _, _, _, _, _, _, _, _, _]) [127, 128, 129, 130, 131, 132, 133, 134, 135, 136, 137, 138, 139, 140] 140 (.bool t22) ?_ ?_
              ·refine bc (b := ((x15 != x17) && !c18)) (fun hg2 => ?_) (fun hg2 => ?_)
               ·replace hk := ct hg2 ht
                refine AF hg2 (pF Bk (AF hg2 ?_))
                refine CP hO 1 (.lit _ _ _) Du (AF hg2 ?_)
                refine pM (.int _ _) (AF hg2 (bk hk fun c23 hc23 hk => ?_))
                refine pX hc23 Ex B1 (AF hg2 ?_)
                refine pF BL (AF hg2 ?_)
                refine By (.lit _ _ _) (D7 (lm := m3) (off := 0) hc23 BC) (AF hg2 ?_)
                refine pF Bk (AF hg2 ?_)
                refine CP hO 1 (.lit _ _ _) Du (AF hg2 ?_)
                refine pM (.int _ _) (AF hg2 (bk hk fun c24 hc24 hk => ?_))
                refine pX hc24 Ex B1 (AF hg2 ?_)
                refine pF BL (AF hg2 ?_)
                refine By (.lit _ _ _) (D7 (lm := m3) (off := 0) hc24 BC) (AF hg2 (bk hk fun v25 hv25 hk => ?_))
                refine AR (fun _ => IF hv25) (AF hg ?_)
                refine Cv hg2 (.bool _) ?_
                cases hk; exact pE ek
               ·replace hk := cf hg2 ht
                refine AG hg2 (AG hg2 (AG hg2 (AG hg2 (AG hg2 (AG hg2 (AG hg2 (AG hg2 (AG hg2 (AG hg2 (AG hg2 (AG hg2 (AG hg2 (AF hg (Cu hg2 (.bool _) ?_))))))))))))))
                cases hk; exact pE ek
              ·intro J
               refine Cu hg (.bool _) ?_
               cases hk; exact pE ek
           ·intro J
            refine pE (gn (Aq hk (fun hk => ?_) (fun hk => ?_)))
            ·refine A1 (A4 (pM (.int _ _) ?_))
             refine Q2 [_, _] Fa Gx ?_
             refine Cl (xs := [_, _]) hO 0 D2 rfl (fun G hO => pE (gn (Av (br (gr (gr (br (br (gr (gr (br (gr (have hk := lx hx2 hk; have hk := lx hx1 hk; ?_)))))))))))))
             replace hk := Option.some.inj hk; subst hk; exact Gz hO (Dr (n := 2) (DN (CB _ _) (DN (CB _ _) (Ho)))) (FW hO 0 [_, _] HQ D2 Dt)
            ·refine As (bn (gn (A4 (AX ?_))))
             refine pM (.int _ _) (pE (gn ?_))
             cases hk; exact ⟨_, rfl, _, _, hO, sh⟩
          ·refine D6 (ge (ge (be (bn (gn (have hk := lx hx2 hk; A4 (AX ?_)))))))
           refine pM (.int _ _) (pE (gn ?_))
           cases hk; exact ⟨_, rfl, _, _, hO, sh⟩
         ·refine D6 (ge (ge (be (gn (have hk := lx hx1 hk; A1 (A4 (Q2 [_, _] Fa Gx ?_)))))))
          refine Cl (xs := [_, _]) hO 0 D2 rfl (fun G hO => pE (gn (Av ?_)))
          replace hk := Option.some.inj hk; subst hk; exact Gz hO (Dr (n := 2) (DN (CB _ _) (DN (CB _ _) (Ho)))) (FW hO 0 [_, _] HQ D2 Dt)
def jM (aP0 : AQ) : Option Bool :=
 ((SV aP0).bind fun v2 => some (v2.Code == (0:Int)))
theorem a8 {aP0 : AQ} {r : Bool} {l1 l2 m3 l4 m5 : Nat} (hk : jM aP0 = some r) (hlk : 0 < lk.length := by simp) : Al Tryz.prog hh 72 [.agg (Aj l1 0 l2 m3 l4 m5 aP0)] H lk = some (.bool r, H) := by
 refine AI Tryz.func72 rfl Tryz.ntmps72 Tryz.results72 rfl rfl fun hO => ?_
 unfold jM at hk
 refine A1 (A4 (Ba (cs := [_, _, _, _, _]) hO CH (fun b1 G hO => ?_)))
 refine pA (.bool _) (pE (gn (A1 (A4 ?_))))
 refine Dw hO 0 [_, _, _, _, _] FG CH (bk hk fun v2 hv2 hk => ?_)
 refine AR (fun _ => XJ hv2) (C7 hO D2 Fa (fun b3 G hO => ?_))
 refine Cl (xs := [_, _]) hO 0 D2 rfl (fun G hO => pE (gn (A1 (A4 ?_))))
 refine Au bT hO 0 (.int _ _) BW ?_
 refine AX ?_
 refine pA (.bool _) (pE (gn (Av ?_)))
 cases hk; exact AT hO
def OM (aP0 : AQ) (c3 : AH) : Int → Option (Int ⊕ Bool) := fun s =>
 (bif decide (s < c3.Ac) then ((AL c3.Ab s).bind fun c10 => (bif !c10 then ((some false).map Sum.inr) else some (.inl (BV (s + (1:Int)))))) else ((bif (c3.State == (3:Int)) then ((bif c3.Shown then ((U1 c3.Timer (1:Int) aP0.ED).bind fun v12 => some v12) else some false).bind fun t11 => some t11) else some (((c3.Timer == (0:Int)) && ((c3.State != (0:Int)) || !c3.Shown)) && ((c3.State != (2:Int)) || c3.Shown))).map Sum.inr))
def Lv (aP0 : AQ) (c3 : AH) : Option Bool :=
 (AJ (OM aP0 c3) ((0:Int)))
def ON (aP0 : AQ) (c3 : AH) : Int → Option (Int ⊕ Bool) := fun s =>
 (bif decide (s < (c3.Ab.length : Int)) then ((AL c3.Ab s).bind fun c14 => (bif c14 then ((some false).map Sum.inr) else some (.inl (BV (s + (1:Int)))))) else ((bif (c3.Ac != (0:Int)) then some false else (Lv aP0 c3)).map Sum.inr))
def gW (aP0 : AQ) (aF1 : AE) (aI2 : Int) : Option Bool :=
 ((AL aF1.A5 aI2).bind fun c3 => ((AL aP0.A5 aI2).bind fun c5 => ((U1 c3.State (0:Int) (4:Int)).bind fun v6 => ((bif (!v6 || ((c3.Ab.length : Int) != (c5.A0.length : Int))) then some true else ((U1 c3.Ac (0:Int) (BV ((c5.A0.length : Int) - (1:Int)))).bind fun v8 => some (!v8))).bind fun t7 => (bif t7 then some false else (bif (c3.State != (4:Int)) then (AJ (ON aP0 c3) ((0:Int))) else (Lv aP0 c3)))))))
theorem a9 {aP0 : AQ} {aF1 : AE} {aI2 : Int} {r : Bool} {l1 l2 m3 l4 m5 l6 l7 l8 m9 : Nat} (hk : gW aP0 aF1 aI2 = some r) (hlk : 0 < lk.length := by simp) : Al Tryz.prog hh 73 [.agg (Aj l1 0 l2 m3 l4 m5 aP0), .agg (Ai l6 0 l7 0 l8 m9 aF1), iv aI2] H lk = some (.bool r, H) := by
 refine AI Tryz.func73 rfl Tryz.ntmps73 Tryz.results73 rfl rfl fun hO => ?_
 unfold gW at hk
 refine A1 (A4 (Ba (cs := [_, _, _, _, _]) hO CH (fun b1 G hO => ?_)))
 refine Ba (cs := [_, _, _, _]) hO C0 (fun b2 G hO => ?_)
 refine pA (.bool _) (pE (gn (A1 (A4 ?_))))
 refine Au Bl hO 0 (.lit _ _ _) E6 ?_
 refine pM (.int _ _) (bk hk fun c3 hc3 hk => ?_)
 refine pX hc3 EN Ay ?_
 refine By (.agg [_, _, _, _, _]) (GG (lm := m9) (off := 0) hc3 G9 Ay) (C7 hO Ay FT (fun b4 G hO => ?_))
 refine Cl (xs := [_, _, _, _, _]) hO 0 Ay rfl (fun G hO => pE (gn (A1 (A4 ?_))))
 refine Au Bk hO 2 (.lit _ _ _) Du ?_
 refine pM (.int _ _) (bk hk fun c5 hc5 hk => ?_)
 refine pX hc5 Ex B1 ?_
 refine pF BL ?_
 refine By (.lit _ _ _) (D7 (lm := m3) (off := 0) hc5 BC) ?_
 refine Ah DE ?_
 refine pA (.int _ _) (pE (gn (A1 (A1 (A4 ?_)))))
 refine Au B9 hO 0 (.int _ _) BW (bk hk fun v6 hv6 hk => ?_)
 refine AR (fun _ => Ei hv6) ?_
 refine pU ?_
 refine pM (.bool _) ?_
 refine AU (l1 := [_, _, _, _, _, _]) [29, 30, 31, 32, 33, 34] 34 (.bool (!v6 || ((c3.Ab.length : Int) != (c5.A0.length : Int)))) ?_ ?_
 ·refine bc (b := !v6) (fun hg => ?_) (fun hg => ?_)
  ·refine AG hg (AG hg (AG hg (AG hg (AG hg (Cv hg (.bool _) ?_)))))
   exact pE (ek (by rw [hg]; rfl))
  ·refine AF hg (pF C6 (AF hg ?_))
   refine CP hO 0 (.lit _ _ _) CC (AF hg ?_)
   refine Ah Hd (AF hg ?_)
   refine pM (.int _ _) (AF hg ?_)
   refine AX ?_
   refine Cu hg (.bool _) ?_
   exact pE (ek (by rw [hg]; rfl))
 ·intro J
  refine pM (.bool _) (bk hk fun t7 ht hk => ?_)
  refine AU (l1 := [_, _, _, _, _, _, _]) [36, 37, 38, 39, 40, 41, 42] 42 (.bool t7) ?_ ?_
  ·refine bc (b := (!v6 || ((c3.Ab.length : Int) != (c5.A0.length : Int)))) (fun hg => ?_) (fun hg => ?_)
   ·replace hk := ct hg ht
    refine AG hg (AG hg (AG hg (AG hg (AG hg (AG hg (Cv hg (.bool _) ?_))))))
    cases hk; exact pE ek
   ·replace hk := cf hg ht
    refine AF hg (pF C1 (AF hg ?_))
    refine CP hO 0 (.int _ _) BW (AF hg ?_)
    refine pM (.int _ _) (AF hg ?_)
    refine AX (AF hg (bk hk fun v8 hv8 hk => ?_))
    refine AR (fun _ => Ei hv8) (AF hg ?_)
    refine pU ?_
    refine Cu hg (.bool _) ?_
    cases hk; exact pE ek
  ·intro J
   refine pE (gn (Aq hk (fun hk => ?_) (fun hk => ?_)))
   ·refine A1 (A4 (pA (.bool _) (pE (gn (Av (gr ?_))))))
    cases hk; exact AT hO
   ·refine As (gn (CS (fun S' => ∃  (J : Nat → V) (G : A3), Lv aP0 c3 = some r ∧ A6 H G [.Ad b4 (.cells 5 [iv c3.State, iv c3.Ac, AN m9 0 c3.Ab, .bool c3.Shown, iv c3.Timer]), .Ad b1 (.cells 5 (Aj l1 0 l2 m3 l4 m5 aP0))] ∧ S' = ⟨CO [(3, .ptr b1 0), (7, .ptr b4 0)] J, G⟩) ?_ ?_))
    ·refine A1 (A4 (Au B9 hO 0 (.int _ _) BW ?_))
     refine AX (pE (gn (Aq hk (fun hk => ?_) (fun hk => ?_))))
     ·refine A1 (A1 (A4 (Au C6 hO 0 (.lit _ _ _) CC ?_)))
      refine Ah Hd ?_
      refine pM (.int _ _) (pE (gn (BQ ?_)))
      refine AD (F := ON aP0 c3) (fun s S' => ∃ (J : Nat → V) (G : A3), A6 H G [.Ad b4 (.cells 5 [iv c3.State, iv c3.Ac, AN m9 0 c3.Ab, .bool c3.Shown, iv c3.Timer]), .Ad b1 (.cells 5 (Aj l1 0 l2 m3 l4 m5 aP0))] ∧ S' = ⟨CO [(3, .ptr b1 0), (7, .ptr b4 0), (47, AN m9 0 c3.Ab), (48, iv (c3.Ab.length : Int)), (49, iv s)] J, G⟩) hk ⟨_, _, (pk hO [0, 2]), sh⟩ ?_
      rintro x13 _ y1 ⟨J, G, hO, rfl⟩ hk hx1
      refine A1 (A4 (AX (pE (gn (A1 (Aq hk (fun hk => ?_) (fun hk => ?_)))))))
      ·refine As (gn (A1 (BQ (A1 (A4 (bk hk fun c14 hc14 hk => pX hc14 Cn FU ?_))))))
       refine By (.bool _) (D7 (lm := 0) (off := 0) hc14 Fv) ?_
       refine pA (.bool _) (pE (gn (A1 (A4 ?_))))
       refine pM (.bool _) (pE (gn (Aq hk (fun hk => ?_) (fun hk => ?_))))
       ·refine A1 (A4 (pA (.bool _) (pE (gn (Av (br (gr (gr (br (gr (gr (have hk := lx hx1 hk; ?_))))))))))))
        cases hk; exact AT hO
       ·refine As (bn (gn (A4 (AX ?_))))
        refine pM (.int _ _) (pE (gn ?_))
        cases hk; exact ⟨_, rfl, _, _, hO, sh⟩
      ·refine D6 (ge (ge (be (gn (have hk := lx hx1 hk; A1 (A4 (Au C1 hO 0 (.int _ _) BW ?_)))))))
       refine AX (pE (gn (Aq hk (fun hk => ?_) (fun hk => ?_))))
       ·refine A1 (A4 (pA (.bool _) (pE (gn (Av (gr ?_))))))
        cases hk; exact AT hO
       ·exact As (gn (⟨_, _, hk, hO, sh⟩))
     ·exact As (gn (⟨_, _, hk, (pk hO [0, 2]), sh⟩))
    ·rintro _ ⟨J, G, hk, hO, rfl⟩
     refine A1 (A1 (A4 (pA (.int _ _) (pE (gn (BQ ?_))))))
     refine AD (F := OM aP0 c3) (fun s S' => ∃ (J : Nat → V) (G : A3), A6 H G [.Ad b4 (.cells 5 [iv c3.State, iv c3.Ac, AN m9 0 c3.Ab, .bool c3.Shown, iv c3.Timer]), .Ad b1 (.cells 5 (Aj l1 0 l2 m3 l4 m5 aP0))] ∧ S' = ⟨CO [(3, .ptr b1 0), (7, .ptr b4 0), (11, iv s)] J, G⟩) hk ⟨_, _, hO, sh⟩ ?_
     rintro x9 _ y1 ⟨J, G, hO, rfl⟩ hk hx1
     refine A1 (A1 (A4 (pM (.int _ _) ?_)))
     refine Au C1 hO 0 (.int _ _) BW ?_
     refine AX (pE (gn (Aq hk (fun hk => ?_) (fun hk => ?_))))
     ·refine As (gn (A1 (BQ (A1 (A4 (Au C6 hO 0 (.lit _ _ _) CC ?_))))))
      refine pM (.int _ _) (bk hk fun c10 hc10 hk => ?_)
      refine pX hc10 Cn FU ?_
      refine By (.bool _) (D7 (lm := 0) (off := 0) hc10 Fv) ?_
      refine pU (pE (gn (Aq hk (fun hk => ?_) (fun hk => ?_))))
      ·refine A1 (A4 (pA (.bool _) (pE (gn (Av (br (gr (gr (br (gr (have hk := lx hx1 hk; ?_)))))))))))
       cases hk; exact AT hO
      ·refine As (bn (gn (A4 (pM (.int _ _) ?_))))
       refine AX ?_
       refine pA (.int _ _) (pE (gn ?_))
       cases hk; exact ⟨_, rfl, _, _, hO, sh⟩
     ·refine D6 (ge (ge (be (gn (have hk := lx hx1 hk; A1 (A1 (A4 (Au B9 hO 0 (.int _ _) BW ?_))))))))
      refine AX (pE (gn (Aq hk (fun hk => ?_) (fun hk => ?_))))
      ·refine A1 (A4 (Au Dv hO 0 (.bool _) Fv ?_))
       refine pM (.bool _) (bk hk fun t11 ht hk => ?_)
       refine AU (l1 := [_, _, _, _, _, _]) [76, 77, 78, 79, 80, 81] 81 (.bool t11) ?_ ?_
       ·refine bc (b := c3.Shown) (fun hg => ?_) (fun hg => ?_)
        ·replace hk := ct hg ht
         refine AF hg (pF EA (AF hg ?_))
         refine CP hO 0 (.int _ _) BW (AF hg ?_)
         refine pF KY (AF hg ?_)
         refine CP hO 1 (.int _ _) BW (AF hg (bk hk fun v12 hv12 hk => ?_))
         refine AR (fun _ => Ei hv12) ?_
         refine Cv hg (.bool _) ?_
         cases hk; exact pE ek
        ·replace hk := cf hg ht
         refine AG hg (AG hg (AG hg (AG hg (AG hg (Cu hg (.bool _) ?_)))))
         cases hk; exact pE ek
       ·intro J
        refine pA (.bool _) (pE (gn (Av (gr ?_))))
        cases hk; exact AT hO
      ·refine As (gn (A1 (A4 (Au EA hO 0 (.int _ _) BW ?_))))
       refine AX ?_
       refine pM (.bool _) ?_
       refine AU (l1 := [_, _, _, _, _, _, _, _, _]) [86, 87, 88, 89, 90, 91, 92, 93, 94] 94 (.bool ((c3.Timer == (0:Int)) && ((c3.State != (0:Int)) || !c3.Shown))) ?_ ?_
       ·refine bc (b := (c3.Timer == (0:Int))) (fun hg => ?_) (fun hg => ?_)
        ·refine AF hg (pF B9 (AF hg ?_))
         refine CP hO 0 (.int _ _) BW (AF hg ?_)
         refine AX (AF hg ?_)
         refine pM (.bool _) ?_
         refine AU (l1 := [_, _, _, _]) [90, 91, 92, 93] 93 (.bool ((c3.State != (0:Int)) || !c3.Shown)) ?_ ?_
         ·refine bc (b := (c3.State != (0:Int))) (fun hg2 => ?_) (fun hg2 => ?_)
          ·refine AG hg2 (AG hg2 (AG hg2 (AF hg (Cv hg2 (.bool _) ?_))))
           exact pE (ek (by rw [hg2]; rfl))
          ·refine AF hg2 (pF Dv (AF hg2 ?_))
           refine CP hO 0 (.bool _) Fv (AF hg2 ?_)
           refine pU (AF hg ?_)
           refine Cu hg2 (.bool _) ?_
           exact pE (ek (by rw [hg2]; rfl))
         ·intro J
          refine Cv hg (.bool _) ?_
          exact pE (ek (by rw [hg]; rfl))
        ·refine AG hg (AG hg (AG hg (AG hg (CY (CY (CY (AG hg (Cu hg (.bool _) ?_))))))))
         exact pE (ek (by rw [hg]; rfl))
       ·intro J
        refine pM (.bool _) ?_
        refine AU (l1 := [_, _, _, _, _, _, _, _]) [96, 97, 98, 99, 100, 101, 102, 103] 103 (.bool (((c3.Timer == (0:Int)) && ((c3.State != (0:Int)) || !c3.Shown)) && ((c3.State != (2:Int)) || c3.Shown))) ?_ ?_
        ·refine bc (b := ((c3.Timer == (0:Int)) && ((c3.State != (0:Int)) || !c3.Shown))) (fun hg => ?_) (fun hg => ?_)
         ·refine AF hg (pF B9 (AF hg ?_))
          refine CP hO 0 (.int _ _) BW (AF hg ?_)
          refine AX (AF hg ?_)
          refine pM (.bool _) ?_
          refine AU (l1 := [_, _, _]) [100, 101, 102] 102 (.bool ((c3.State != (2:Int)) || c3.Shown)) ?_ ?_
          ·refine bc (b := (c3.State != (2:Int))) (fun hg2 => ?_) (fun hg2 => ?_)
           ·refine AG hg2 (AG hg2 (AF hg (Cv hg2 (.bool _) ?_)))
            exact pE (ek (by rw [hg2]; rfl))
           ·refine AF hg2 (pF Dv (AF hg2 ?_))
            refine CP hO 0 (.bool _) Fv (AF hg ?_)
            refine Cu hg2 (.bool _) ?_
            exact pE (ek (by rw [hg2]; rfl))
          ·intro J
           refine Cv hg (.bool _) ?_
           exact pE (ek (by rw [hg]; rfl))
         ·refine AG hg (AG hg (AG hg (AG hg (CY (CY (AG hg (Cu hg (.bool _) ?_)))))))
          exact pE (ek (by rw [hg]; rfl))
        ·intro J
         refine pA (.bool _) (pE (gn (Av ?_)))
         cases hk; exact AT hO
def OI (aF0 : AE) : ((List Bool) × (List Am) × (List AH) × Int) → Option (((List Bool) × (List Am) × (List AH) × Int) ⊕ AE) := fun s =>
 (bif decide (s.2.2.2 < (aF0.A5.length : Int)) then ((AL aF0.A5 s.2.2.2).bind fun c17 => ((D5 1 ([] : List Bool) c17.Ab).bind fun z20 => ((D5 56 s.2.2.1 [({ State := c17.State, Ac := c17.Ac, Ab := z20, Shown := c17.Shown, Timer := c17.Timer } : AH)]).bind fun z26 => some (.inl (s.1, s.2.1, z26, BV (s.2.2.2 + (1:Int))))))) else ((some ({ Ok := aF0.Ok, C9 := s.1, A8 := s.2.1, A5 := s.2.2.1 } : AE)).map Sum.inr))
def eM (aF0 : AE) : Option AE :=
 ((D5 1 ([] : List Bool) aF0.C9).bind fun z4 => ((D5 16 ([] : List Am) aF0.A8).bind fun z7 => (AJ (OI aF0) (z4, z7, ([] : List AH), (0:Int)))))
theorem Zw {aF0 : AE} {r : AE} {l1 l2 l3 m4 : Nat} (hk : eM aF0 = some r) (hlk : 0 < lk.length := by simp) : ∃ v H1, Al Tryz.prog hh 61 [.agg (Ai l1 0 l2 0 l3 m4 aF0)] H lk = some (v, H1) ∧ Gb H r v H1 := by
 refine B0 Tryz.func61 rfl Tryz.ntmps61 Tryz.results61 rfl rfl ?_
 have hO := A6.nil H
 unfold eM at hk
 refine A1 (A4 (Ba (cs := [_, _, _, _]) hO C0 (fun b1 G hO => C7 hO C0 SC (fun b2 G hO => pE (gn (A1 (A4 ?_)))))))
 refine Au MW hO 1 (.bool _) Fv ?_
 refine Q2 [_, _, _, _] SC nK (C7 hO C0 SC (fun b3 G hO => ?_))
 refine Cl (xs := [_, _, _, _]) hO 0 C0 rfl (fun G hO => pE (gn (A1 (A4 ?_))))
 refine Au Co hO 0 (.tl 0 []) CC ?_
 refine Au Co hO 2 (.lit _ _ _) CC ?_
 replace hO := A6.H8 hO lk.length ([] : List Bool)
 refine bk hk fun z4 hz4 hk => Ta (xs := ([] : List Bool)) hO 0 hz4 (Hh _ aF0.C9) Cn FU gA dA Cn rfl (fun o4 G hno4 hO => ?_)
 replace hno4 := hno4 Nz.nil
 refine pF Co ?_
 have hc6 := C4 hO (j := 0) rfl
 refine Cl (xs := [_]) hO 1 GI rfl (fun G hO => ?_) (h3 := hc6.1) (h6 := Bo hc6.2)
 refine pE (gn (A1 (A4 (Au Dh hO 1 (.tl 0 []) JX ?_))))
 refine Au Dh hO 3 (.lit _ _ _) JX ?_
 replace hO := A6.H8 hO lk.length ([] : List Am)
 refine bk hk fun z7 hz7 hk => Ta (xs := ([] : List Am)) hO 0 hz7 (Hh _ aF0.A8) Iv EE gB TN Iv rfl (fun o7 G hno7 hO => ?_)
 replace hno7 := hno7 Nz.nil
 refine pF Dh ?_
 have hc9 := C4 hO (j := 0) rfl
 refine Cl (xs := [_]) hO 2 gG rfl (fun G hO => ?_) (h3 := hc9.1) (h6 := Bo hc9.2)
 refine pE (gn (A1 (A1 (A4 (Au Bl hO 4 (.lit _ _ _) E6 ?_)))))
 refine Ah Ih ?_
 refine pM (.int _ _) (pE (gn (BQ ?_)))
 refine AD (F := OI aF0) (fun s S' => ∃ (o10 : V) (o12 : V) (o14 : V) (F15 : List Nat) (J : Nat → V) (G : A3), Nz o10 ∧ Nz o12 ∧ A6 H G [.own o10 lk.length 1 s.1.length (A9 0 s.1), .own o12 lk.length 2 s.2.1.length (A9 0 s.2.1), Ap H lk.length F15 s.2.2.1 o14, .Ad b3 (.cells 4 [.bool aF0.Ok, o10, o12, o14]), .Ad b2 (.cells 4 [.bool false, (.tl 0 []), (.tl 0 []), (.tl 0 [])])] ∧ S' = ⟨CO [(2, .ptr b2 0), (3, .ptr b3 0), (23, AN l3 m4 aF0.A5), (24, iv (aF0.A5.length : Int)), (25, iv s.2.2.2)] J, G⟩) hk ⟨o4, o7, (.tl 0 []), [], _, _, hno4, hno7, (A6.pick (A6.iG hO AH lk.length) [2, 1, 0, 3, 4] (by decide) rfl), sh⟩ ?_
 rintro ⟨x10, x12, x14, x16⟩ _ y1 ⟨o10, o12, o14, F15, J, G, hno10, hno12, hO, rfl⟩ hk hx1
 refine A1 (A4 (AX (pE (gn (A1 (Aq hk (fun hk => ?_) (fun hk => ?_)))))))
 ·refine As (gn (A1 (BQ (A1 (A4 (bk hk fun c17 hc17 hk => pX hc17 EN Ay ?_))))))
  refine By (.agg [_, _, _, _, _]) (GG (lm := m4) (off := 0) hc17 G9 Ay) (C7 hO Ay FT (fun b18 G hO => ?_))
  refine Cl (xs := [_, _, _, _, _]) hO 0 Ay rfl (fun G hO => pE (gn (A1 (A4 ?_))))
  refine Dw hO 0 [_, _, _, _, _] G9 Ay (C7 hO Ay FT (fun b19 G hO => ?_))
  refine Cl (xs := [_, _, _, _, _]) hO 0 Ay rfl (fun G hO => pE (gn (A1 (A4 ?_))))
  refine Uh (ps := []) ([] : List Bool) Cn FU dA (Dm) ?_
  refine Au C6 hO 1 (.lit _ _ _) CC ?_
  replace hO := A6.H8 hO lk.length ([] : List Bool)
  refine bk hk fun z20 hz20 hk => Ta (xs := ([] : List Bool)) hO 0 hz20 (Hh _ c17.Ab) Cn FU gA dA Cn rfl (fun o20 G hno20 hO => ?_)
  replace hno20 := hno20 Nz.nil
  refine pF C6 ?_
  have hc22 := C4 hO (j := 0) rfl
  refine Cl (xs := [_]) hO 1 GI rfl (fun G hO => ?_) (h3 := hc22.1) (h6 := Bo hc22.2)
  refine pE (gn (A4 (Au Bl hO 6 o14 E6 ?_)))
  refine Dw hO 1 [_, _, _, _, _] G9 Ay ?_
  have hc23 := C4 hO (j := 0) rfl
  refine mZ (ce := [iv c17.State, iv c17.Ac, o20, .bool c17.Shown, iv c17.Timer]) EN Ay FT rfl rfl (Bq rfl (Bq rfl (Bq hc23.2 (Bq rfl (Bq rfl Ik))))) ?_
  obtain ⟨F25, hO, _⟩ := A6.kO hO hno20 hlk
  replace hO := (hO.treeMap (p' := fun G => DM H.length lk.length (An.dep AH) (fun G => An.tr G (({ State := c17.State, Ac := c17.Ac, Ab := z20, Shown := c17.Shown, Timer := c17.Timer } : AH) : AH)) G [iv c17.State, iv c17.Ac, o20, .bool c17.Shown, iv c17.Timer] F25) fun G h => (DM.Mp (c17.State : Int) rfl (DM.Mp (c17.Ac : Int) rfl (DM.T8 (c17.Shown, c17.Timer) rfl (DM.up (m := An.dep AH) rfl h)))))
  have hce24 : ([iv c17.State, iv c17.Ac, o20, .bool c17.Shown, iv c17.Timer] : List V).length = AM.sz AH ∧ ([iv c17.State, iv c17.Ac, o20, .bool c17.Shown, iv c17.Timer] : List V).all V.Bh = true := ⟨rfl, (Bq rfl (Bq rfl (Bq hc23.2 (Bq rfl (Bq rfl Ik)))))⟩
  refine bk hk fun z26 hz26 hk => mY hO 4 hz26 hce24.1 hce24.2 EN Ay Yo FT EN rfl (fun o26 F27 G hO => ?_)
  refine pF Bl ?_
  have hc28 := SG hO (j := 4) rfl
  refine Cl (xs := [_]) hO 5 gH rfl (fun G hO => ?_) (h3 := hc28.1) (h6 := Bo hc28.2)
  refine pE (bn (gn (A4 (AX ?_))))
  refine pM (.int _ _) (pE (gn ?_))
  cases hk; exact ⟨_, rfl, o10, o12, o26, F27, _, _, hno10, hno12, (pk hO [2, 3, 4, 5, 6]), sh⟩
 ·refine D6 (ge (ge (be (gn (have hk := lx hx1 hk; A1 (A4 (Dw hO 3 [_, _, _, _] Ew C0 ?_)))))))
  have hc29 := C4 hO (j := 0) rfl
  have hc30 := C4 hO (j := 1) rfl
  have hc31 := SG hO (j := 2) rfl
  refine Cl (xs := [_, _, _, _]) hO 4 C0 rfl (fun G hO => ?_) (h6 := (Bq rfl (Bq hc29.2 (Bq hc30.2 (Bq hc31.2 Ik)))))
  refine pE (gn (Av ?_))
  replace hk := Option.some.inj hk; subst hk; exact IG hO (Pb (x := ({ Ok := aF0.Ok, C9 := x10, A8 := x12, A5 := x14 } : AE)) (Bx (c1 := [_]) (LV aF0.Ok) (Bx (c1 := [_]) (Ka (xs := x10) hno10 hlk 0) (Bx (c1 := [_]) (Ka (xs := x12) hno12 hlk 0) (lM (xs := x14) hlk 0))))) (FW hO 4 [_, _, _, _] Ew C0 Dt)
def OW (aF1 : AE) (x5 : Int) (c6 : List Aa) : Int → Option (Int ⊕ (Int ⊕ Bool)) := fun s =>
 (bif decide (s < (c6.length : Int)) then ((AL c6 s).bind fun c8 => ((AL aF1.A8 c8.Switch).bind fun c10 => ((bif (c10.Want != c8.EZ) then some true else ((AL aF1.A8 c8.Switch).bind fun c12 => some (c12.AO != c8.EZ))).bind fun t11 => (bif t11 then (((some false).map Sum.inr).map Sum.inr) else some (.inl (BV (s + (1:Int)))))))) else ((some (.inl (BV (x5 + (1:Int))))).map Sum.inr))
def OX (aF1 : AE) (x13 : Int) (c14 : List Int) : Int → Option (Int ⊕ (Int ⊕ Bool)) := fun s =>
 (bif decide (s < (c14.length : Int)) then ((AL c14 s).bind fun c16 => ((AL aF1.C9 c16).bind fun c17 => (bif c17 then (((some false).map Sum.inr).map Sum.inr) else some (.inl (BV (s + (1:Int))))))) else ((some (.inl (BV (x13 + (1:Int))))).map Sum.inr))
def Lx (aF1 : AE) (c3 : Bu) : Int → Option (Int ⊕ Bool) := fun s =>
 (bif decide (s < (([c3.A0, c3.BY] : List (List Int)).length : Int)) then ((AL ([c3.A0, c3.BY] : List (List Int)) s).bind fun c14 => (AJ (OX aF1 s c14) ((0:Int)))) else ((some true).map Sum.inr))
def OV (aF1 : AE) (c3 : Bu) : Int → Option (Int ⊕ Bool) := fun s =>
 (bif decide (s < (([c3.AO, c3.AB] : List (List Aa)).length : Int)) then ((AL ([c3.AO, c3.AB] : List (List Aa)) s).bind fun c6 => (AJ (OW aF1 s c6) ((0:Int)))) else ((AJ (Lx aF1 c3) ((0:Int))).map Sum.inr))
def jW (aP0 : AQ) (aF1 : AE) (aI2 : Int) : Option Bool :=
 ((AL aP0.A5 aI2).bind fun c3 => (AJ (OV aF1 c3) ((0:Int))))
theorem aN {aP0 : AQ} {aF1 : AE} {aI2 : Int} {r : Bool} {l1 l2 m3 l4 m5 l6 l7 l8 m9 : Nat} (hk : jW aP0 aF1 aI2 = some r) (hlk : 0 < lk.length := by simp) : Al Tryz.prog hh 93 [.agg (Aj l1 0 l2 m3 l4 m5 aP0), .agg (Ai l6 0 l7 0 l8 m9 aF1), iv aI2] H lk = some (.bool r, H) := by
 refine AI Tryz.func93 rfl Tryz.ntmps93 Tryz.results93 rfl rfl fun hO => ?_
 unfold jW at hk
 refine A1 (A4 (Ba (cs := [_, _, _, _, _]) hO CH (fun b1 G hO => ?_)))
 refine Ba (cs := [_, _, _, _]) hO C0 (fun b2 G hO => ?_)
 refine pA (.bool _) (pE (gn (A1 (A4 ?_))))
 refine Au Bk hO 1 (.lit _ _ _) Du ?_
 refine pM (.int _ _) (bk hk fun c3 hc3 hk => ?_)
 refine pX hc3 Ex B1 ?_
 refine By (.agg [_, _, _, _, _]) (GG (lm := m3) (off := 0) hc3 FB B1) (C7 hO B1 Ir (fun b4 G hO => ?_))
 refine Cl (xs := [_, _, _, _, _]) hO 0 B1 rfl (fun G hO => pE (gn (A1 (A1 (A4 ?_)))))
 refine Au EB hO 0 (.lit _ _ _) Df ?_
 refine Au EX hO 0 (.lit _ _ _) Df ?_
 refine fP (ps := [(0, (.lit _ _ _)), (1, (.lit _ _ _))]) m3 ([c3.AO, c3.AB] : List (List Aa)) Vj Qh cZ ?_
 refine Ah dI ?_
 refine pM (.int _ _) (pE (gn (BQ ?_)))
 refine AD (F := OV aF1 c3) (fun s S' => ∃ (J : Nat → V) (G : A3), A6 H G [.Ad b4 (.cells 5 (Cq m3 0 m3 0 m3 0 m3 0 m3 0 c3)), .Ad b2 (.cells 4 (Ai l6 0 l7 0 l8 m9 aF1))] ∧ S' = ⟨CO [(4, .ptr b2 0), (7, .ptr b4 0), (25, (.tl 2 (A9 m3 ([c3.AO, c3.AB] : List (List Aa))))), (26, iv (([c3.AO, c3.AB] : List (List Aa)).length : Int)), (27, iv s)] J, G⟩) hk ⟨_, _, (pk hO [0, 1]), sh⟩ ?_
 rintro x5 _ y1 ⟨J, G, hO, rfl⟩ hk hx1
 refine A1 (A4 (AX (pE (gn (A1 (Aq hk (fun hk => ?_) (fun hk => ?_)))))))
 ·refine As (gn (A1 (BQ (A1 (A4 (bk hk fun c6 hc6 hk => fU (lm := m3) hc6 Vj Qh ?_))))))
  refine By (.lit _ _ _) (D7 (lm := m3) (off := 0) hc6 Df) ?_
  refine pA (.lit _ _ _) (pE (gn (A1 (A4 ?_))))
  refine pM (.lit _ _ _) ?_
  refine Ah FC ?_
  refine pM (.int _ _) (pE (gn (BQ ?_)))
  refine AD (F := OW aF1 x5 c6) (fun s S' => ∃ (J : Nat → V) (G : A3), A6 H G [.Ad b4 (.cells 5 (Cq m3 0 m3 0 m3 0 m3 0 m3 0 c3)), .Ad b2 (.cells 4 (Ai l6 0 l7 0 l8 m9 aF1))] ∧ S' = ⟨CO [(4, .ptr b2 0), (7, .ptr b4 0), (25, (.tl 2 (A9 m3 ([c3.AO, c3.AB] : List (List Aa))))), (26, iv (([c3.AO, c3.AB] : List (List Aa)).length : Int)), (27, iv x5), (31, AN m3 0 c6), (32, iv (c6.length : Int)), (33, iv s)] J, G⟩) hk ⟨_, _, hO, sh⟩ ?_
  rintro x7 _ y2 ⟨J, G, hO, rfl⟩ hk hx2
  refine A1 (A4 (AX (pE (gn (A1 (Aq hk (fun hk => ?_) (fun hk => ?_)))))))
  ·refine As (gn (A1 (BQ (A1 (A4 (bk hk fun c8 hc8 hk => pX hc8 Dl BD ?_))))))
   refine By (.agg [_, _]) (GG (lm := 0) (off := 0) hc8 GA BD) (C7 hO BD FZ (fun b9 G hO => ?_))
   refine Cl (xs := [_, _]) hO 0 BD rfl (fun G hO => pE (gn (A1 ?_)))
   refine BG [(0, true), (1, true), (2, true), (3, true), (4, true), (5, true), (6, true), (7, true), (8, true), (9, false), (10, false), (11, true), (12, true), (13, true), (14, true), (15, true), (16, true), (17, true), (18, true), (19, true), (20, false), (21, false)] [_, _, _, _, _, _, _, _, _, _, _, _, _, _, _, _, _, _, _, _, _, _] (by decide +kernel) (by rfl) ?_
   refine Au Dh hO 2 (.lit _ _ _) JX ?_
   refine Au CR hO 0 (.int _ _) BW (bk hk fun c10 hc10 hk => ?_)
   refine pX hc10 Iv EE ?_
   refine pF Ig ?_
   refine By (.int _ _) (D7 (lm := 0) (off := 0) hc10 BW) ?_
   refine Au EC hO 0 (.int _ _) BW ?_
   refine AX ?_
   refine pM (.bool _) (bk hk fun t11 ht hk => ?_)
   refine AU (l1 := [_, _, _, _, _, _, _, _, _, _, _]) [48, 49, 50, 51, 52, 53, 54, 55, 56, 57, 58] 58 (.bool t11) ?_ ?_
   ·refine bc (b := (c10.Want != c8.EZ)) (fun hg => ?_) (fun hg => ?_)
    ·replace hk := ct hg ht
     refine AG hg (AG hg (AG hg (AG hg (AG hg (AG hg (AG hg (AG hg (AG hg (AG hg (Cv hg (.bool _) ?_))))))))))
     cases hk; exact pE ek
    ·replace hk := cf hg ht
     refine AF hg (pF Dh (AF hg ?_))
     refine CP hO 2 (.lit _ _ _) JX (AF hg ?_)
     refine pF CR (AF hg ?_)
     refine CP hO 0 (.int _ _) BW (AF hg (bk hk fun c12 hc12 hk => ?_))
     refine pX hc12 Iv EE (AF hg ?_)
     refine pF KZ (AF hg ?_)
     refine By (.int _ _) (D7 (lm := 0) (off := 1) hc12 BW) (AF hg ?_)
     refine pF EC (AF hg ?_)
     refine CP hO 0 (.int _ _) BW (AF hg ?_)
     refine AX ?_
     refine Cu hg (.bool _) ?_
     cases hk; exact pE ek
   ·intro J
    refine pE (gn (Aq hk (fun hk => ?_) (fun hk => ?_)))
    ·refine A1 (A4 (pA (.bool _) (pE (gn (Av (br (gr (gr (br (br (gr (gr (br (gr (have hk := lx hx2 hk; have hk := lx hx1 hk; ?_)))))))))))))))
     cases hk; exact AT hO
    ·refine As (bn (gn (A4 (AX ?_))))
     refine pM (.int _ _) (pE (gn ?_))
     cases hk; exact ⟨_, rfl, _, _, (pk hO [1, 2]), sh⟩
  ·refine D6 (ge (ge (be (bn (gn (have hk := lx hx2 hk; A4 (AX ?_)))))))
   refine pM (.int _ _) (pE (gn ?_))
   cases hk; exact ⟨_, rfl, _, _, hO, sh⟩
 ·refine D6 (ge (ge (be (gn (have hk := lx hx1 hk; A1 (A1 (A4 (Au BL hO 0 (.lit _ _ _) BC ?_))))))))
  refine Au DY hO 0 (.lit _ _ _) BC ?_
  refine fP (ps := [(0, (.lit _ _ _)), (1, (.lit _ _ _))]) m3 ([c3.A0, c3.BY] : List (List Int)) dF LU nG ?_
  refine Ah lL ?_
  refine pM (.int _ _) (pE (gn (BQ ?_)))
  refine AD (F := Lx aF1 c3) (fun s S' => ∃ (J : Nat → V) (G : A3), A6 H G [.Ad b2 (.cells 4 (Ai l6 0 l7 0 l8 m9 aF1))] ∧ S' = ⟨CO [(4, .ptr b2 0), (65, (.tl 2 (A9 m3 ([c3.A0, c3.BY] : List (List Int))))), (66, iv (([c3.A0, c3.BY] : List (List Int)).length : Int)), (67, iv s)] J, G⟩) hk ⟨_, _, (pk hO [1]), sh⟩ ?_
  rintro x13 _ y1 ⟨J, G, hO, rfl⟩ hk hx1
  refine A1 (A4 (AX (pE (gn (A1 (Aq hk (fun hk => ?_) (fun hk => ?_)))))))
  ·refine As (gn (A1 (BQ (A1 (A4 (bk hk fun c14 hc14 hk => fU (lm := m3) hc14 dF LU ?_))))))
   refine By (.lit _ _ _) (D7 (lm := m3) (off := 0) hc14 BC) ?_
   refine pA (.lit _ _ _) (pE (gn (A1 (A4 ?_))))
   refine pM (.lit _ _ _) ?_
   refine Ah DE ?_
   refine pM (.int _ _) (pE (gn (BQ ?_)))
   refine AD (F := OX aF1 x13 c14) (fun s S' => ∃ (J : Nat → V) (G : A3), A6 H G [.Ad b2 (.cells 4 (Ai l6 0 l7 0 l8 m9 aF1))] ∧ S' = ⟨CO [(4, .ptr b2 0), (65, (.tl 2 (A9 m3 ([c3.A0, c3.BY] : List (List Int))))), (66, iv (([c3.A0, c3.BY] : List (List Int)).length : Int)), (67, iv x13), (71, AN m3 0 c14), (72, iv (c14.length : Int)), (73, iv s)] J, G⟩) hk ⟨_, _, hO, sh⟩ ?_
   rintro x15 _ y2 ⟨J, G, hO, rfl⟩ hk hx2
   refine A1 (A4 (AX (pE (gn (A1 (Aq hk (fun hk => ?_) (fun hk => ?_)))))))
   ·refine As (gn (A1 (BQ (A1 (A4 (bk hk fun c16 hc16 hk => pX hc16 C8 DS ?_))))))
    refine By (.int _ _) (D7 (lm := 0) (off := 0) hc16 BW) ?_
    refine pA (.int _ _) (pE (gn (A1 (A4 ?_))))
    refine Au Co hO 0 (.lit _ _ _) CC ?_
    refine pM (.int _ _) (bk hk fun c17 hc17 hk => ?_)
    refine pX hc17 Cn FU ?_
    refine By (.bool _) (D7 (lm := 0) (off := 0) hc17 Fv) (pE (gn (Aq hk (fun hk => ?_) (fun hk => ?_))))
    ·refine A1 (A4 (pA (.bool _) (pE (gn (Av (br (gr (gr (br (br (gr (gr (br (gr (have hk := lx hx2 hk; have hk := lx hx1 hk; ?_)))))))))))))))
     cases hk; exact AT hO
    ·refine As (bn (gn (A4 (AX ?_))))
     refine pM (.int _ _) (pE (gn ?_))
     cases hk; exact ⟨_, rfl, _, _, hO, sh⟩
   ·refine D6 (ge (ge (be (bn (gn (have hk := lx hx2 hk; A4 (AX ?_)))))))
    refine pM (.int _ _) (pE (gn ?_))
    cases hk; exact ⟨_, rfl, _, _, hO, sh⟩
  ·refine D6 (ge (ge (be (gn (have hk := lx hx1 hk; A1 (A4 (pA (.bool _) (pE (gn (Av ?_))))))))))
   cases hk; exact AT hO
def lS (aH0 : List AH) (aH0i : Int) : Option (List AH) :=
 (AL aH0 aH0i).bind fun c1 => ((GK 1 (c1.Ab.length : Int)).bind fun m3 => some (aH0.set aH0i.toNat ({ State := 0, Ac := 0, Ab := List.replicate m3 (false : Bool), Shown := false, Timer := 0 } : AH)))
theorem Zx {aH0 : List AH} {aH0i : Int} {r : (List AH)} {b0 : Nat} {vp1 : V} {S0 Fp1 : List Nat} (hk : lS aH0 aH0i = some r) (hv0 : vp1 = .sl b0 0 aH0.length) (hO : A6 H H [AY S0 Fp1 aH0 [vp1]]) (hS : ∀ b ∈ S0, AV lk b = true) (hlt : ∀ b ∈ S0, b < H.length) (hlo : Di lk H.length) (hlk : 0 < lk.length := by simp) : ∃ v H1, Al Tryz.prog hh 65 [.ptr b0 (aH0i.toNat * 5)] H lk = some (v, H1) ∧ v = .FH [] ∧ ∃ (Fs : List Nat) (Hm : A3), Bz H Hm (S0) ∧ A6 Hm H1 [AY S0 Fs r [vp1]] := by
 refine B0 Tryz.func65 rfl Tryz.ntmps65 Tryz.results65 rfl rfl ?_
 have hFr := Bz.refl H (S0)
 unfold lS at hk
 refine bk hk fun c1 hc1 hk => A1 (A4 (pM (.ptr _ _) ?_))
 refine Ci ?_
 refine pF C6 ?_
 refine Ui Cd hO 0 hv0 hc1 CC (fun u2 fs2 hs2 => ?_)
 refine YY hs2 Hd ?_
 refine pA (.int _ _) (pE (gn (A4 ?_)))
 refine pM (.ptr _ _) ?_
 refine pM (.int _ _) (bk hk fun m3 hm3 hk => ?_)
 refine hQ hO hm3 (false : Bool) Cn FU gA dA (fun b4 G hO => ?_)
 refine Q2 [_, _, _, _, _] FT dH ?_
 refine Ci ?_
 replace hO := A6.lN hO List.length_replicate
 replace hO := (hO.treeMap (p' := fun G => CG G (({ State := 0, Ac := 0, Ab := List.replicate m3 (false : Bool), Shown := false, Timer := 0 } : AH) : AH) [iv 0, iv 0, .sl b4 0 m3, .bool false, iv 0] [b4]) fun G h => (CG.Mp (0 : Int) (CG.Mp (0 : Int) (CG.T8 (false, 0) h))))
 refine cX hO 0 hv0 hc1 Ay hFr hS rfl (fun H1 G hFr hO => pE ?_)
 replace hk := Option.some.inj hk; subst hk; exact Xs ((Fp1 ++ [b4])) hO hFr (JV MO Yd) rfl rfl rfl rfl (by first | exact Or.inl rfl | exact Or.inr rfl)
def RT (x6 : Int) (x7 : List AH) (c8 : AH) : Option (((List AH) × AH × Int) ⊕ AE) :=
 some (.inl (x7, c8, BV (x6 + (1:Int))))
def KJ (aW0 : Bu) (aF1 : AE) (aH2i : Int) : ((List AH) × AH) → Option (((List AH) × AH) ⊕ AE) := fun s =>
 (bif decide (s.2.Ac < (aW0.A0.length : Int)) then ((AL s.2.Ab s.2.Ac).bind fun c21 => ((bif !c21 then some true else ((AL aW0.A0 s.2.Ac).bind fun c24 => ((AL aF1.C9 c24).bind fun c25 => some c25))).bind fun t23 => ((bif t23 then some true else ((bif decide (s.2.Ac < (BV ((aW0.A0.length : Int) - (1:Int)))) then ((AL s.2.Ab (BV (s.2.Ac + (1:Int)))).bind fun c30 => some (!c30)) else some false).bind fun t28 => some t28)).bind fun t27 => (bif t27 then ((some ({ Ok := aF1.Ok, C9 := aF1.C9, A8 := aF1.A8, A5 := s.1 } : AE)).map Sum.inr) else some (.inl (s.1.set aH2i.toNat ({ s.2 with Ac := BV (s.2.Ac + (1:Int)) }), ({ s.2 with Ac := BV (s.2.Ac + (1:Int)) } : AH))))))) else (((lS s.1 aH2i).bind fun z33 => some ({ Ok := aF1.Ok, C9 := aF1.C9, A8 := aF1.A8, A5 := z33 } : AE)).map Sum.inr))
def OY (aW0 : Bu) (aF1 : AE) (aH2i : Int) : ((List AH) × AH × Int) → Option (((List AH) × AH × Int) ⊕ AE) := fun s =>
 (bif decide (s.2.2 < (aW0.A0.length : Int)) then ((AL aW0.A0 s.2.2).bind fun c10 => ((AL aF1.C9 c10).bind fun c11 => (bif c11 then ((AL s.2.1.Ab s.2.2).bind fun c14 => (RT s.2.2 (s.1.set aH2i.toNat ({ s.2.1 with Ab := s.2.1.Ab.set s.2.2.toNat true })) ({ s.2.1 with Ab := s.2.1.Ab.set s.2.2.toNat true } : AH))) else (RT s.2.2 s.1 s.2.1)))) else ((AJ (KJ aW0 aF1 aH2i) (s.1, s.2.1)).map Sum.inr))
def jX (aW0 : Bu) (aF1 : AE) (aH2i : Int) : Option AE :=
 (AL aF1.A5 aH2i).bind fun c1 => (AJ (OY aW0 aF1 aH2i) (aF1.A5, c1, (0:Int)))
theorem aO {aW0 : Bu} {aF1 : AE} {aH2i : Int} {r : AE} {l1 l2 l3 l4 l5 : Nat} {q0 b0 : Nat} {vp1 vp2 vp3 : V} {S0 Fp1 Fp2 Fp3 : List Nat} (hk : jX aW0 aF1 aH2i = some r) (hv0 : vp3 = .sl b0 0 aF1.A5.length) (hO : A6 H H [.DD S0 q0 (.cells 4 [.bool aF1.Ok, vp1, vp2, vp3]), AY S0 Fp1 aF1.C9 [vp1], AY S0 Fp2 aF1.A8 [vp2], AY S0 Fp3 aF1.A5 [vp3]]) (hS : ∀ b ∈ S0, AV lk b = true) (hlt : ∀ b ∈ S0, b < H.length) (hlo : Di lk H.length) (hlk : 0 < lk.length := by simp) : ∃ v H1, Al Tryz.prog hh 94 [.agg (Cq l1 0 l2 0 l3 0 l4 0 l5 0 aW0), .ptr q0 0, .ptr b0 (aH2i.toNat * 5)] H lk = some (v, H1) ∧ v = .FH [] ∧ ∃ (Fs : List Nat × List Nat × List Nat) (Hm : A3), Bz H Hm (S0) ∧ A6 Hm H1 [.DD S0 q0 (.cells 4 [.bool r.Ok, vp1, vp2, vp3]), AY S0 Fs.1 r.C9 [vp1], AY S0 Fs.2.1 r.A8 [vp2], AY S0 Fs.2.2 r.A5 [vp3]] := by
 refine B0 Tryz.func94 rfl Tryz.ntmps94 Tryz.results94 rfl rfl ?_
 have hFr := Bz.refl H (S0)
 unfold jX at hk
 have hq := (List.getElem?_eq_some_iff.1 (hO.Xy (k := 0) rfl).1).1
 refine bk hk fun c1 hc1 hk => A1 (A4 (Ba (cs := [_, _, _, _, _]) hO B1 (fun b2 G hO => pE (gn (A1 (A4 ?_))))))
 refine Au BL hO 0 (.lit _ _ _) BC ?_
 refine Ah DE ?_
 refine pA (.int _ _) (pE (gn (A1 (A1 (A4 ?_)))))
 refine Au BL hO 0 (.lit _ _ _) BC ?_
 refine Ah DE ?_
 refine pM (.int _ _) (pE (gn (BQ ?_)))
 refine AD (F := OY aW0 aF1 aH2i) (fun s S' => ∃ (J : Nat → V) (G : A3) (H1 : A3), AL s.1 aH2i = some s.2.1 ∧ vp3 = .sl b0 0 s.1.length ∧ Bz H H1 S0 ∧ A6 H1 G [.Ad b2 (.cells 5 (Cq l1 0 l2 0 l3 0 l4 0 l5 0 aW0)), .DD S0 q0 (.cells 4 [.bool aF1.Ok, vp1, vp2, vp3]), AY S0 Fp1 aF1.C9 [vp1], AY S0 Fp2 aF1.A8 [vp2], AY S0 Fp3 s.1 [vp3]] ∧ S' = ⟨CO [(1, .ptr q0 0), (2, .ptr b0 (aH2i.toNat * 5)), (3, .ptr b2 0), (6, iv (aW0.A0.length : Int)), (14, AN l1 0 aW0.A0), (15, iv (aW0.A0.length : Int)), (16, iv s.2.2)] J, G⟩) hk ⟨_, _, _, hc1, hv0, hFr, hO, sh⟩ ?_
 rintro ⟨x3, c4, x6⟩ _ y1 ⟨J, G, H1, hc4, hv5, hFr, hO, rfl⟩ hk hx1
 refine A1 (A4 (AX (pE (gn (A1 (Aq hk (fun hk => ?_) (fun hk => ?_)))))))
 ·refine As (gn (CS (fun S' => ∃ (x7 : List AH) (c8 : AH) (J : Nat → V) (G : A3) (H1 : A3), RT x6 x7 c8 = some y1 ∧ AL x7 aH2i = some c8 ∧ vp3 = .sl b0 0 x7.length ∧ Bz H H1 S0 ∧ A6 H1 G [.Ad b2 (.cells 5 (Cq l1 0 l2 0 l3 0 l4 0 l5 0 aW0)), .DD S0 q0 (.cells 4 [.bool aF1.Ok, vp1, vp2, vp3]), AY S0 Fp1 aF1.C9 [vp1], AY S0 Fp2 aF1.A8 [vp2], AY S0 Fp3 x7 [vp3]] ∧ S' = ⟨CO [(1, .ptr q0 0), (2, .ptr b0 (aH2i.toNat * 5)), (3, .ptr b2 0), (6, iv (aW0.A0.length : Int)), (14, AN l1 0 aW0.A0), (15, iv (aW0.A0.length : Int)), (16, iv x6)] J, G⟩) ?_ ?_))
  ·refine BQ (A1 (A4 (pM (.int _ _) (bk hk fun c10 hc10 hk => ?_))))
   refine pX hc10 C8 DS ?_
   refine By (.int _ _) (D7 (lm := 0) (off := 0) hc10 BW) ?_
   refine pA (.int _ _) ?_
   refine pA (.int _ _) (pE (gn (A1 (A4 ?_))))
   refine pM (.ptr _ _) ?_
   refine Ci ?_
   refine pF Co ?_
   refine ZH hO 1 vp1 CC ?_
   refine pM (.int _ _) (bk hk fun c11 hc11 hk => ?_)
   refine Lb hO 2 hc11 Cn FU (fun b12 hb12 => ?_)
   refine GR (Bf.all (α := Bool)) (.bool _) hO 2 hb12 hc11 Fv (pE (gn (Aq hk (fun hk => ?_) (fun hk => ?_))))
   ·refine A4 (pM (.ptr _ _) ?_)
    refine Ci ?_
    refine pF C6 ?_
    refine Ui Cd hO 4 hv5 hc4 CC (fun u13 fs13 hs13 => ?_)
    refine pM (.int _ _) (bk hk fun c14 hc14 hk => ?_)
    refine fT hs13 hc14 Cn FU (fun b15 hb15 => ?_)
    refine kM (y' := true) hO 4 hs13 hb15 hc14 FU (fun _ => ⟨rfl, rfl⟩) hFr hS rfl (fun H1 G hFr hO => ?_)
    replace hO : A6 H1 G [.Ad b2 (.cells 5 (Cq l1 0 l2 0 l3 0 l4 0 l5 0 aW0)), .DD S0 q0 (.cells 4 [.bool aF1.Ok, vp1, vp2, vp3]), AY S0 Fp1 aF1.C9 [vp1], AY S0 Fp2 aF1.A8 [vp2], AY S0 Fp3 (x3.set aH2i.toNat ({ c4 with Ab := c4.Ab.set x6.toNat true })) [vp3]] := hO
    have hc_16 := Bv hc4 ({ c4 with Ab := c4.Ab.set x6.toNat true } : AH)
    have hv_16 := Cw (j := aH2i.toNat) (y := ({ c4 with Ab := c4.Ab.set x6.toNat true } : AH)) hv5
    exact pE (bn (gn (⟨x3.set aH2i.toNat ({ c4 with Ab := c4.Ab.set x6.toNat true }), ({ c4 with Ab := c4.Ab.set x6.toNat true } : AH), _, _, _, hk, hc_16, hv_16, hFr, hO, sh⟩)))
   ·exact As (bn (gn (⟨x3, c4, _, _, _, hk, hc4, hv5, hFr, hO, sh⟩)))
  ·rintro _ ⟨x7, c8, J, G, H1, hk, hc8, hv9, hFr, hO, rfl⟩
   refine A4 (AX ?_)
   refine pM (.int _ _) (pE (gn ?_))
   cases hk; exact ⟨_, rfl, _, _, _, hc8, hv9, hFr, hO, sh⟩
 ·refine D6 (ge (ge (be (gn (have hk := lx hx1 hk; A1 (BQ (AD (F := KJ aW0 aF1 aH2i) (fun s S' => ∃ (J : Nat → V) (G : A3) (H1 : A3), AL s.1 aH2i = some s.2 ∧ vp3 = .sl b0 0 s.1.length ∧ Bz H H1 S0 ∧ A6 H1 G [.Ad b2 (.cells 5 (Cq l1 0 l2 0 l3 0 l4 0 l5 0 aW0)), .DD S0 q0 (.cells 4 [.bool aF1.Ok, vp1, vp2, vp3]), AY S0 Fp1 aF1.C9 [vp1], AY S0 Fp2 aF1.A8 [vp2], AY S0 Fp3 s.1 [vp3]] ∧ S' = ⟨CO [(1, .ptr q0 0), (2, .ptr b0 (aH2i.toNat * 5)), (3, .ptr b2 0), (6, iv (aW0.A0.length : Int))] J, G⟩) hk ⟨_, _, _, hc4, hv5, hFr, hO, sh⟩ ?_)))))))
  rintro ⟨x17, c18⟩ _ y1 ⟨J, G, H1, hc18, hv19, hFr, hO, rfl⟩ hk hx1
  refine A1 (A1 (A4 (pM (.ptr _ _) ?_)))
  refine Ci ?_
  refine pF C1 ?_
  refine GR Bt (.int _ _) hO 4 hv19 hc18 BW ?_
  refine pM (.int _ _) ?_
  refine AX (pE (gn (Aq hk (fun hk => ?_) (fun hk => ?_))))
  ·refine As (gn (BQ (A1 (A4 (pM (.ptr _ _) ?_)))))
   refine Ci ?_
   refine pF C1 ?_
   refine GR Bt (.int _ _) hO 4 hv19 hc18 BW ?_
   refine pA (.int _ _) (pE (gn (A1 (A1 ?_))))
   refine BG [(0, false), (1, false), (2, false), (3, true), (4, true), (5, false), (6, true), (7, false), (8, false), (9, true), (10, true), (11, true), (12, true), (13, true), (14, true), (15, true), (16, true), (17, true), (18, false), (19, true), (20, false), (21, false), (22, false), (23, false), (24, false), (25, false), (26, false), (27, false), (28, false), (29, false), (30, true), (31, true), (32, true), (33, false), (34, true), (35, false), (36, false), (37, false)] [_, _, _, _, _, _, _, _, _, _, _, _, _, _, _, _, _, _, _, _, _, _, _, _, _, _, _, _, _, _, _, _, _, _, _, _, _, _] (by decide +kernel) (by rfl) ?_
   refine pM (.ptr _ _) ?_
   refine Ci ?_
   refine pF C6 ?_
   refine Ui Cd hO 4 hv19 hc18 CC (fun u20 fs20 hs20 => ?_)
   refine pM (.int _ _) (bk hk fun c21 hc21 hk => ?_)
   refine fT hs20 hc21 Cn FU (fun b22 hb22 => ?_)
   refine YX (.bool _) hs20 hb22 hc21 Fv ?_
   refine pU ?_
   refine pM (.bool _) (bk hk fun t23 ht hk => ?_)
   refine AU (l1 := [_, _, _, _, _, _, _, _, _, _, _, _]) [54, 55, 56, 57, 58, 59, 60, 61, 62, 63, 64, 65] 65 (.bool t23) ?_ ?_
   ·refine bc (b := !c21) (fun hg => ?_) (fun hg => ?_)
    ·replace hk := ct hg ht
     refine AG hg (AG hg (AG hg (AG hg (AG hg (AG hg (AG hg (AG hg (AG hg (AG hg (AG hg (Cv hg (.bool _) ?_)))))))))))
     cases hk; exact pE ek
    ·replace hk := cf hg ht
     refine AF hg (pM (.ptr _ _) (AF hg ?_))
     refine Ci (AF hg ?_)
     refine pF Co (AF hg ?_)
     refine ZH hO 1 vp1 CC (AF hg ?_)
     refine pF BL (AF hg ?_)
     refine CP hO 0 (.lit _ _ _) BC (AF hg ?_)
     refine pM (.int _ _) (AF hg (bk hk fun c24 hc24 hk => ?_))
     refine pX hc24 C8 DS (AF hg ?_)
     refine By (.int _ _) (D7 (lm := 0) (off := 0) hc24 BW) (AF hg (bk hk fun c25 hc25 hk => ?_))
     refine Lb hO 2 hc25 Cn FU (fun b26 hb26 => AF hg ?_)
     refine GR (Bf.all (α := Bool)) (.bool _) hO 2 hb26 hc25 Fv ?_
     refine Cu hg (.bool _) ?_
     cases hk; exact pE ek
   ·intro J
    refine pM (.bool _) (bk hk fun t27 ht hk => ?_)
    refine AU (l1 := [_, _, _, _, _, _, _, _, _, _, _, _, _, _, _, _]) [67, 68, 69, 70, 71, 72, 73, 74, 75, 76, 77, 78, 79, 80, 81, 82] 82 (.bool t27) ?_ ?_
    ·refine bc (b := t23) (fun hg => ?_) (fun hg => ?_)
     ·replace hk := ct hg ht
      refine AG hg (AG hg (AG hg (AG hg (AG hg (CY (CY (CY (CY (CY (CY (CY (CY (CY (AG hg (Cv hg (.bool _) ?_)))))))))))))))
      cases hk; exact pE ek
     ·replace hk := cf hg ht
      refine AF hg (pM (.int _ _) (AF hg ?_))
      refine pM (.int _ _) (AF hg ?_)
      refine AX (AF hg ?_)
      refine AX (AF hg ?_)
      refine pM (.bool _) (bk hk fun t28 ht hk => ?_)
      refine AU (l1 := [_, _, _, _, _, _, _, _, _, _]) [72, 73, 74, 75, 76, 77, 78, 79, 80, 81] 81 (.bool t28) ?_ ?_
      ·refine bc (b := decide (c18.Ac < (BV ((aW0.A0.length : Int) - (1:Int))))) (fun hg2 => ?_) (fun hg2 => ?_)
       ·replace hk := ct hg2 ht
        refine AF hg2 (pM (.ptr _ _) (AF hg2 ?_))
        refine Ci (AF hg2 ?_)
        refine pF C6 (AF hg2 ?_)
        refine Ui Cd hO 4 hv19 hc18 CC (fun u29 fs29 hs29 => AF hg2 ?_)
        refine pM (.int _ _) (AF hg2 ?_)
        refine AX (AF hg2 (bk hk fun c30 hc30 hk => ?_))
        refine fT hs29 hc30 Cn FU (fun b31 hb31 => AF hg2 ?_)
        refine YX (.bool _) hs29 hb31 hc30 Fv (AF hg2 ?_)
        refine pU (AF hg ?_)
        refine Cv hg2 (.bool _) ?_
        cases hk; exact pE ek
       ·replace hk := cf hg2 ht
        refine AG hg2 (AG hg2 (AG hg2 (AG hg2 (AG hg2 (AG hg2 (AG hg2 (AG hg2 (AG hg2 (AF hg (Cu hg2 (.bool _) ?_))))))))))
        cases hk; exact pE ek
      ·intro J
       refine Cu hg (.bool _) ?_
       cases hk; exact pE ek
    ·intro J
     refine pE (gn (Aq hk (fun hk => ?_) (fun hk => ?_)))
     ·refine Av (gr (br (gr (br (gr (have hk := lx hx1 hk; ?_))))))
      replace hk := Option.some.inj hk; subst hk; exact Xs (Fp1, Fp2, Fp3) (pk hO [1, 2, 3, 4]) hFr (JV (bJ hq) (JV MO (JV MO (JV MO Yd)))) rfl rfl rfl rfl (by first | exact Or.inl rfl | exact Or.inr rfl)
     ·refine As (gn (A4 (pM (.ptr _ _) ?_)))
      refine Ci ?_
      refine pF C1 ?_
      refine GR Bt (.int _ _) hO 4 hv19 hc18 BW ?_
      refine AX ?_
      refine Ci ?_
      refine pF C1 ?_
      refine N1 Bt (y' := (BV (c18.Ac + (1:Int)))) hO 4 hv19 hc18 DS (fun _ => ⟨rfl, rfl⟩) hFr hS rfl (fun H1 G hFr hO => ?_)
      have hc_32 := Bv hc18 ({ c18 with Ac := BV (c18.Ac + (1:Int)) } : AH)
      have hv_32 := Cw (j := aH2i.toNat) (y := ({ c18 with Ac := BV (c18.Ac + (1:Int)) } : AH)) hv19
      refine pE (bn (gn ?_))
      cases hk; exact ⟨_, rfl, _, _, _, hc_32, hv_32, hFr, hO, sh⟩
  ·refine D6 (ge (ge (be (gn (have hk := lx hx1 hk; A4 (pM (.ptr _ _) ?_))))))
   replace hO := (A6.pick hO [4, 0, 1, 2, 3] (by decide) rfl : A6 H1 G ([AY S0 Fp3 x17 [vp3]] ++ [.Ad b2 (.cells 5 (Cq l1 0 l2 0 l3 0 l4 0 l5 0 aW0)), .DD S0 q0 (.cells 4 [.bool aF1.Ok, vp1, vp2, vp3]), AY S0 Fp1 aF1.C9 [vp1], AY S0 Fp2 aF1.A8 [vp2]]))
   refine bk hk fun z33 hz33 hk => cU (rs0 := [AY S0 Fp3 x17 [vp3]]) (rs1 := fun (Fs34 : List Nat) => [AY S0 Fs34 z33 [vp3]]) (rest := [.Ad b2 (.cells 5 (Cq l1 0 l2 0 l3 0 l4 0 l5 0 aW0)), .DD S0 q0 (.cells 4 [.bool aF1.Ok, vp1, vp2, vp3]), AY S0 Fp1 aF1.C9 [vp1], AY S0 Fp2 aF1.A8 [vp2]]) (S := (Fp3 ++ [])) hO hFr hS hlo (Rq rfl) (NT rfl) (SF rfl gZ) (fun hl1 hlt1 hun1 ho1 => Zx hz33 hv19 ho1 hun1 hlt1 hl1) (fun _ => (SF rfl gZ)) (fun Fs34 H1 G hFr hO => pE ?_)
   replace hk := Option.some.inj hk; subst hk; exact Xs (Fp1, Fp2, Fs34) (pk hO [2, 3, 4, 0]) hFr (JV (bJ hq) (JV MO (JV MO (JV MO Yd)))) rfl rfl rfl rfl (by first | exact Or.inl rfl | exact Or.inr rfl)
def Lu (x9 : Int) (x10 : Bool) (x11 : List Bool) (x13 : List Am) (x15 : List AH) : Option ((Bool × (List Bool) × (List Am) × (List AH) × Int) ⊕ AE) :=
 some (.inl (x10, x11, x13, x15, BV (x9 + (1:Int))))
def OL (x2 : Bool) (x3 : List Bool) (x5 : List Am) (x9 : Int) (c19 : Bu) (x29 : List AH) (c31 : AH) : Option ((Bool × (List Bool) × (List Am) × (List AH) × Int) ⊕ AE) :=
 (bif (c31.State == (4:Int)) then ((jX c19 ({ Ok := x2, C9 := x3, A8 := x5, A5 := x29 } : AE) x9).bind fun z33 => (Lu x9 z33.Ok z33.C9 z33.A8 z33.A5)) else (Lu x9 x2 x3 x5 x29))
def OK (aP0 : AQ) (x2 : Bool) (x3 : List Bool) (x5 : List Am) (x9 : Int) (c19 : Bu) (x23 : List AH) (c25 : AH) : Option ((Bool × (List Bool) × (List Am) × (List AH) × Int) ⊕ AE) :=
 (bif ((c25.State == (1:Int)) || (c25.State == (2:Int))) then ((jW aP0 ({ Ok := x2, C9 := x3, A8 := x5, A5 := x23.set x9.toNat ({ c25 with State := (1:Int) }) } : AE) x9).bind fun v36 => (bif v36 then (OL x2 x3 x5 x9 c19 (((x23.set x9.toNat ({ c25 with State := (1:Int) })).set x9.toNat ({ ({ c25 with State := (1:Int) } : AH) with State := (2:Int) })).set x9.toNat ({ ({ ({ c25 with State := (1:Int) } : AH) with State := (2:Int) } : AH) with Shown := true })) ({ ({ ({ c25 with State := (1:Int) } : AH) with State := (2:Int) } : AH) with Shown := true } : AH)) else (OL x2 x3 x5 x9 c19 (x23.set x9.toNat ({ c25 with State := (1:Int) })) ({ c25 with State := (1:Int) } : AH)))) else (OL x2 x3 x5 x9 c19 x23 c25))
def OJ (aP0 : AQ) (aF1 : AE) : (Bool × (List Bool) × (List Am) × (List AH) × Int) → Option ((Bool × (List Bool) × (List Am) × (List AH) × Int) ⊕ AE) := fun s =>
 (bif decide (s.2.2.2.2 < (aF1.A5.length : Int)) then ((AL s.2.2.2.1 s.2.2.2.2).bind fun c17 => ((AL aP0.A5 s.2.2.2.2).bind fun c19 => (bif (c17.State == (0:Int)) then (Lu s.2.2.2.2 s.1 s.2.1 s.2.2.1 s.2.2.2.1) else ((bif (c17.State != (4:Int)) then ((AL c19.A0 (0:Int)).bind fun c43 => ((AL s.2.1 c43).bind fun c44 => some c44)) else some false).bind fun t42 => (bif t42 then (OK aP0 s.1 s.2.1 s.2.2.1 s.2.2.2.2 c19 ((s.2.2.2.1.set s.2.2.2.2.toNat ({ c17 with State := (4:Int) })).set s.2.2.2.2.toNat ({ ({ c17 with State := (4:Int) } : AH) with Timer := (0:Int) })) ({ ({ c17 with State := (4:Int) } : AH) with Timer := (0:Int) } : AH)) else (OK aP0 s.1 s.2.1 s.2.2.1 s.2.2.2.2 c19 s.2.2.2.1 c17)))))) else ((some ({ Ok := s.1, C9 := s.2.1, A8 := s.2.2.1, A5 := s.2.2.2.1 } : AE)).map Sum.inr))
def cM (aP0 : AQ) (aF1 : AE) : Option AE :=
 (AJ (OJ aP0 aF1) (aF1.Ok, aF1.C9, aF1.A8, aF1.A5, (0:Int)))
theorem Zy {aP0 : AQ} {aF1 : AE} {r : AE} {l1 l2 m3 l4 m5 : Nat} {q0 : Nat} {vp1 vp2 vp3 : V} {S0 Fp1 Fp2 Fp3 : List Nat} (hk : cM aP0 aF1 = some r) (hO : A6 H H [.DD S0 q0 (.cells 4 [.bool aF1.Ok, vp1, vp2, vp3]), AY S0 Fp1 aF1.C9 [vp1], AY S0 Fp2 aF1.A8 [vp2], AY S0 Fp3 aF1.A5 [vp3]]) (hS : ∀ b ∈ S0, AV lk b = true) (hlt : ∀ b ∈ S0, b < H.length) (hlo : Di lk H.length) (hlk : 0 < lk.length := by simp) : ∃ v H1, Al Tryz.prog hh 66 [.agg (Aj l1 0 l2 m3 l4 m5 aP0), .ptr q0 0] H lk = some (v, H1) ∧ v = .FH [] ∧ ∃ (Fs : List Nat × List Nat × List Nat) (Hm : A3), Bz H Hm (S0) ∧ A6 Hm H1 [.DD S0 q0 (.cells 4 [.bool r.Ok, vp1, vp2, vp3]), AY S0 Fs.1 r.C9 [vp1], AY S0 Fs.2.1 r.A8 [vp2], AY S0 Fs.2.2 r.A5 [vp3]] := by
 refine B0 Tryz.func66 rfl Tryz.ntmps66 Tryz.results66 rfl rfl ?_
 have hFr := Bz.refl H (S0)
 unfold cM at hk
 have hq := (List.getElem?_eq_some_iff.1 (hO.Xy (k := 0) rfl).1).1
 refine A1 (A4 (Ba (cs := [_, _, _, _, _]) hO CH (fun b1 G hO => pE (gn (A1 (A4 ?_))))))
 refine pM (.ptr _ _) ?_
 refine Ci ?_
 refine pF Bl ?_
 refine ZH hO 1 vp3 E6 ?_
 refine JT hO 4 Ih ?_
 refine pM (.int _ _) (pE (gn (BQ ?_)))
 refine AD (F := OJ aP0 aF1) (fun s S' => ∃ (F4 : List Nat) (F6 : List Nat) (F8 : List Nat) (J : Nat → V) (G : A3) (H1 : A3), Bz H H1 S0 ∧ A6 H1 G [.Ad b1 (.cells 5 (Aj l1 0 l2 m3 l4 m5 aP0)), .DD S0 q0 (.cells 4 [.bool s.1, vp1, vp2, vp3]), AY S0 F4 s.2.1 [vp1], AY S0 F6 s.2.2.1 [vp2], AY S0 F8 s.2.2.2.1 [vp3]] ∧ S' = ⟨CO [(1, .ptr q0 0), (2, .ptr b1 0), (11, iv (aF1.A5.length : Int)), (12, iv s.2.2.2.2)] J, G⟩) hk ⟨Fp1, Fp2, Fp3, _, _, _, hFr, hO, sh⟩ ?_
 rintro ⟨x2, x3, x5, x7, x9⟩ _ y1 ⟨F4, F6, F8, J, G, H1, hFr, hO, rfl⟩ hk hx1
 refine A1 (A4 (AX (pE (gn (A1 (Aq hk (fun hk => ?_) (fun hk => ?_)))))))
 ·refine As (gn (CS (fun S' => ∃ (x10 : Bool) (x11 : List Bool) (x13 : List Am) (x15 : List AH) (F12 : List Nat) (F14 : List Nat) (F16 : List Nat) (J : Nat → V) (G : A3) (H1 : A3), Lu x9 x10 x11 x13 x15 = some y1 ∧ Bz H H1 S0 ∧ A6 H1 G [.Ad b1 (.cells 5 (Aj l1 0 l2 m3 l4 m5 aP0)), .DD S0 q0 (.cells 4 [.bool x10, vp1, vp2, vp3]), AY S0 F12 x11 [vp1], AY S0 F14 x13 [vp2], AY S0 F16 x15 [vp3]] ∧ S' = ⟨CO [(1, .ptr q0 0), (2, .ptr b1 0), (11, iv (aF1.A5.length : Int)), (12, iv x9)] J, G⟩) ?_ ?_))
  ·refine BQ (A1 (A4 (pM (.int _ _) ?_)))
   refine pA (.int _ _) (pE (gn (A1 (A4 ?_))))
   refine pM (.ptr _ _) ?_
   refine Ci ?_
   refine pF Bl ?_
   refine ZH hO 1 vp3 E6 ?_
   refine pM (.int _ _) (bk hk fun c17 hc17 hk => ?_)
   refine Lb hO 4 hc17 EN Ay (fun b18 hb18 => ?_)
   refine pA (.ptr _ _) (pE (gn (A1 (A4 ?_))))
   refine Au Bk hO 0 (.lit _ _ _) Du ?_
   refine pM (.int _ _) (bk hk fun c19 hc19 hk => ?_)
   refine pX hc19 Ex B1 ?_
   refine By (.agg [_, _, _, _, _]) (GG (lm := m3) (off := 0) hc19 FB B1) (C7 hO B1 Ir (fun b20 G hO => ?_))
   refine Cl (xs := [_, _, _, _, _]) hO 0 B1 hFr.1.symm (fun G hO => pE (gn (A1 (A1 (A4 ?_)))))
   refine pM (.ptr _ _) ?_
   refine Ci ?_
   refine pF B9 ?_
   refine GR BN (.int _ _) hO 5 hb18 hc17 BW ?_
   refine AX (pE (gn (Aq hk (fun hk => ?_) (fun hk => ?_))))
   ·exact D6 (ge (be (gn (⟨x2, x3, x5, x7, F4, F6, F8, _, _, _, hk, hFr, (pk hO [1, 2, 3, 4, 5]), sh⟩))))
   ·refine As (gn (CS (fun S' => ∃ (x23 : List AH) (c25 : AH) (F21 : List Nat) (F22 : List Nat) (F24 : List Nat) (J : Nat → V) (G : A3) (H1 : A3), OK aP0 x2 x3 x5 x9 c19 x23 c25 = some y1 ∧ AL x23 x9 = some c25 ∧ vp3 = .sl b18 0 x23.length ∧ Bz H H1 S0 ∧ A6 H1 G [.Ad b20 (.cells 5 (Cq m3 0 m3 0 m3 0 m3 0 m3 0 c19)), .Ad b1 (.cells 5 (Aj l1 0 l2 m3 l4 m5 aP0)), .DD S0 q0 (.cells 4 [.bool x2, vp1, vp2, vp3]), AY S0 F21 x3 [vp1], AY S0 F22 x5 [vp2], AY S0 F24 x23 [vp3]] ∧ S' = ⟨CO [(1, .ptr q0 0), (2, .ptr b1 0), (4, iv x9), (5, .ptr b18 (x9.toNat * 5)), (6, .ptr b20 0), (11, iv (aF1.A5.length : Int)), (12, iv x9)] J, G⟩) ?_ ?_))
    ·refine A1 (BG [(0, false), (1, false), (2, false), (3, true), (4, false), (5, false), (6, true), (7, true), (8, true), (9, true), (10, true), (11, true), (12, true), (13, true), (14, false), (15, true), (16, false)] [_, _, _, _, _, _, _, _, _, _, _, _, _, _, _, _, _] (by decide +kernel) (by rfl) ?_)
     refine pM (.ptr _ _) ?_
     refine Ci ?_
     refine pF B9 ?_
     refine GR BN (.int _ _) hO 5 hb18 hc17 BW ?_
     refine AX ?_
     refine pM (.bool _) (bk hk fun t42 ht hk => ?_)
     refine AU (l1 := [_, _, _, _, _, _, _, _, _, _, _]) [37, 38, 39, 40, 41, 42, 43, 44, 45, 46, 47] 47 (.bool t42) ?_ ?_
     ·refine bc (b := (c17.State != (4:Int))) (fun hg => ?_) (fun hg => ?_)
      ·replace hk := ct hg ht
       refine AF hg (pM (.ptr _ _) (AF hg ?_))
       refine Ci (AF hg ?_)
       refine pF Co (AF hg ?_)
       refine ZH hO 2 vp1 CC (AF hg ?_)
       refine pF BL (AF hg ?_)
       refine CP hO 0 (.lit _ _ _) BC (AF hg (bk hk fun c43 hc43 hk => ?_))
       refine pX hc43 C8 DS (AF hg ?_)
       refine By (.int _ _) (D7 (lm := 0) (off := 0) hc43 BW) (AF hg (bk hk fun c44 hc44 hk => ?_))
       refine Lb hO 3 hc44 Cn FU (fun b45 hb45 => AF hg ?_)
       refine GR (Bf.all (α := Bool)) (.bool _) hO 3 hb45 hc44 Fv ?_
       refine Cv hg (.bool _) ?_
       cases hk; exact pE ek
      ·replace hk := cf hg ht
       refine AG hg (AG hg (AG hg (AG hg (AG hg (AG hg (AG hg (AG hg (AG hg (AG hg (Cu hg (.bool _) ?_))))))))))
       cases hk; exact pE ek
     ·intro J
      refine pE (gn (Aq hk (fun hk => ?_) (fun hk => ?_)))
      ·refine A1 (A4 (pM (.ptr _ _) ?_))
       refine Ci ?_
       refine pF B9 ?_
       refine N1 BN (y' := (4:Int)) hO 5 hb18 hc17 DS (fun _ => ⟨rfl, rfl⟩) hFr hS rfl (fun H1 G hFr hO => ?_)
       have hc_46 := Bv hc17 ({ c17 with State := (4:Int) } : AH)
       have hv_46 := Cw (j := x9.toNat) (y := ({ c17 with State := (4:Int) } : AH)) hb18
       refine pE (gn (A4 (pM (.ptr _ _) ?_)))
       refine Ci ?_
       refine pF EA ?_
       refine N1 Gm (y' := (0:Int)) hO 5 hv_46 hc_46 DS (fun _ => ⟨rfl, rfl⟩) hFr hS rfl (fun H1 G hFr hO => ?_)
       have hc_47 := Bv hc_46 ({ ({ c17 with State := (4:Int) } : AH) with Timer := (0:Int) } : AH)
       have hv_47 := Cw (j := x9.toNat) (y := ({ ({ c17 with State := (4:Int) } : AH) with Timer := (0:Int) } : AH)) hv_46
       exact pE (gn (⟨(x7.set x9.toNat ({ c17 with State := (4:Int) })).set x9.toNat ({ ({ c17 with State := (4:Int) } : AH) with Timer := (0:Int) }), ({ ({ c17 with State := (4:Int) } : AH) with Timer := (0:Int) } : AH), F4, F6, F8, _, _, _, hk, hc_47, hv_47, hFr, hO, sh⟩))
      ·exact As (gn (⟨x7, c17, F4, F6, F8, _, _, _, hk, hc17, hb18, hFr, hO, sh⟩))
    ·rintro _ ⟨x23, c25, F21, F22, F24, J, G, H1, hk, hc25, hv26, hFr, hO, rfl⟩
     refine CS (fun S' => ∃ (x29 : List AH) (c31 : AH) (F27 : List Nat) (F28 : List Nat) (F30 : List Nat) (J : Nat → V) (G : A3) (H1 : A3), OL x2 x3 x5 x9 c19 x29 c31 = some y1 ∧ AL x29 x9 = some c31 ∧ vp3 = .sl b18 0 x29.length ∧ Bz H H1 S0 ∧ A6 H1 G [.Ad b20 (.cells 5 (Cq m3 0 m3 0 m3 0 m3 0 m3 0 c19)), .Ad b1 (.cells 5 (Aj l1 0 l2 m3 l4 m5 aP0)), .DD S0 q0 (.cells 4 [.bool x2, vp1, vp2, vp3]), AY S0 F27 x3 [vp1], AY S0 F28 x5 [vp2], AY S0 F30 x29 [vp3]] ∧ S' = ⟨CO [(1, .ptr q0 0), (2, .ptr b1 0), (5, .ptr b18 (x9.toNat * 5)), (6, .ptr b20 0), (11, iv (aF1.A5.length : Int)), (12, iv x9)] J, G⟩) ?_ ?_
     ·refine A1 (A4 (pM (.ptr _ _) ?_))
      refine Ci ?_
      refine pF B9 ?_
      refine GR BN (.int _ _) hO 5 hv26 hc25 BW ?_
      refine AX ?_
      refine pM (.bool _) ?_
      refine AU (l1 := [_, _, _, _, _, _]) [60, 61, 62, 63, 64, 65] 65 (.bool ((c25.State == (1:Int)) || (c25.State == (2:Int)))) ?_ ?_
      ·refine bc (b := (c25.State == (1:Int))) (fun hg => ?_) (fun hg => ?_)
       ·refine AG hg (AG hg (AG hg (AG hg (AG hg (Cv hg (.bool _) ?_)))))
        exact pE (ek (by rw [hg]; rfl))
       ·refine AF hg (pM (.ptr _ _) (AF hg ?_))
        refine Ci (AF hg ?_)
        refine pF B9 (AF hg ?_)
        refine GR BN (.int _ _) hO 5 hv26 hc25 BW (AF hg ?_)
        refine AX ?_
        refine Cu hg (.bool _) ?_
        exact pE (ek (by rw [hg]; rfl))
      ·intro J
       refine pE (gn (Aq hk (fun hk => ?_) (fun hk => ?_)))
       ·refine A1 (A4 (pM (.ptr _ _) ?_))
        refine Ci ?_
        refine pF B9 ?_
        refine N1 BN (y' := (1:Int)) hO 5 hv26 hc25 DS (fun _ => ⟨rfl, rfl⟩) hFr hS rfl (fun H1 G hFr hO => ?_)
        have hc_35 := Bv hc25 ({ c25 with State := (1:Int) } : AH)
        have hv_35 := Cw (j := x9.toNat) (y := ({ c25 with State := (1:Int) } : AH)) hv26
        refine pE (gn (A1 (BG [(0, true), (1, true), (2, true), (3, true), (4, true), (5, false)] [_, _, _, _, _, _] (by decide +kernel) (by rfl) ?_)))
        refine Dw hO 1 [_, _, _, _, _] FG CH ?_
        refine pM (.ptr _ _) ?_
        refine Ci ?_
        refine kL hO 2 Ew C0 ?_
        refine pM (.int _ _) (bk hk fun v36 hv36 hk => ?_)
        obtain ⟨_, hm37⟩ := Sx hO (j := 5) rfl (lk.length + 1) 7
        obtain ⟨_, hm38⟩ := JG hO (j := 4) rfl (lk.length + 1) 7
        obtain ⟨_, hm39⟩ := JG hO (j := 3) rfl (lk.length + 1) 7
        refine AR (vs := [(.agg [_, _, _, _, _]), (.agg [_, _, _, _]), (.int _ _)]) (caps := []) (fun _ => aN hv36) ?_ (h3 := (BK rfl (BK (Rh (DW rfl (DW hm39 (DW hm38 (DW hm37 Rk))))) (BK rfl EJ))))
        refine pE (gn (Aq hk (fun hk => ?_) (fun hk => ?_)))
        ·refine A1 (A4 (pM (.ptr _ _) ?_))
         refine Ci ?_
         refine pF B9 ?_
         refine N1 BN (y' := (2:Int)) hO 5 hv_35 hc_35 DS (fun _ => ⟨rfl, rfl⟩) hFr hS rfl (fun H1 G hFr hO => ?_)
         have hc_40 := Bv hc_35 ({ ({ c25 with State := (1:Int) } : AH) with State := (2:Int) } : AH)
         have hv_40 := Cw (j := x9.toNat) (y := ({ ({ c25 with State := (1:Int) } : AH) with State := (2:Int) } : AH)) hv_35
         refine pE (gn (A4 (pM (.ptr _ _) ?_)))
         refine Ci ?_
         refine pF Dv ?_
         refine N1 Gl (y' := true) hO 5 hv_40 hc_40 FU (fun _ => ⟨rfl, rfl⟩) hFr hS rfl (fun H1 G hFr hO => ?_)
         have hc_41 := Bv hc_40 ({ ({ ({ c25 with State := (1:Int) } : AH) with State := (2:Int) } : AH) with Shown := true } : AH)
         have hv_41 := Cw (j := x9.toNat) (y := ({ ({ ({ c25 with State := (1:Int) } : AH) with State := (2:Int) } : AH) with Shown := true } : AH)) hv_40
         exact pE (gn (⟨((x23.set x9.toNat ({ c25 with State := (1:Int) })).set x9.toNat ({ ({ c25 with State := (1:Int) } : AH) with State := (2:Int) })).set x9.toNat ({ ({ ({ c25 with State := (1:Int) } : AH) with State := (2:Int) } : AH) with Shown := true }), ({ ({ ({ c25 with State := (1:Int) } : AH) with State := (2:Int) } : AH) with Shown := true } : AH), F21, F22, F24, _, _, _, hk, hc_41, hv_41, hFr, hO, sh⟩))
        ·exact As (gn (⟨x23.set x9.toNat ({ c25 with State := (1:Int) }), ({ c25 with State := (1:Int) } : AH), F21, F22, F24, _, _, _, hk, hc_35, hv_35, hFr, hO, sh⟩))
       ·exact As (gn (⟨x23, c25, F21, F22, F24, _, _, _, hk, hc25, hv26, hFr, hO, sh⟩))
     ·rintro _ ⟨x29, c31, F27, F28, F30, J, G, H1, hk, hc31, hv32, hFr, hO, rfl⟩
      refine A1 (A4 (pM (.ptr _ _) ?_))
      refine Ci ?_
      refine pF B9 ?_
      refine GR BN (.int _ _) hO 5 hv32 hc31 BW ?_
      refine AX (pE (gn (Aq hk (fun hk => ?_) (fun hk => ?_))))
      ·refine A4 (Dw hO 0 [_, _, _, _, _] FB B1 ?_)
       refine pM (.ptr _ _) ?_
       refine pM (.ptr _ _) ?_
       replace hO := (A6.pick hO [2, 3, 4, 5, 0, 1] (by decide) rfl : A6 H1 G ([.DD S0 q0 (.cells 4 [.bool x2, vp1, vp2, vp3]), AY S0 F27 x3 [vp1], AY S0 F28 x5 [vp2], AY S0 F30 x29 [vp3]] ++ [.Ad b20 (.cells 5 (Cq m3 0 m3 0 m3 0 m3 0 m3 0 c19)), .Ad b1 (.cells 5 (Aj l1 0 l2 m3 l4 m5 aP0))]))
       refine bk hk fun z33 hz33 hk => cU (rs0 := [.DD S0 q0 (.cells 4 [.bool x2, vp1, vp2, vp3]), AY S0 F27 x3 [vp1], AY S0 F28 x5 [vp2], AY S0 F30 x29 [vp3]]) (rs1 := fun (Fs34 : List Nat × List Nat × List Nat) => [.DD S0 q0 (.cells 4 [.bool z33.Ok, vp1, vp2, vp3]), AY S0 Fs34.1 z33.C9 [vp1], AY S0 Fs34.2.1 z33.A8 [vp2], AY S0 Fs34.2.2 z33.A5 [vp3]]) (rest := [.Ad b20 (.cells 5 (Cq m3 0 m3 0 m3 0 m3 0 m3 0 c19)), .Ad b1 (.cells 5 (Aj l1 0 l2 m3 l4 m5 aP0))]) (S := (q0 :: (F27 ++ (F28 ++ (F30 ++ []))))) hO hFr hS hlo (Rq rfl) (NT rfl) (SF rfl (SF rfl (SF rfl (SF rfl gZ)))) (fun hl1 hlt1 hun1 ho1 => aO hz33 hv32 ho1 hun1 hlt1 hl1) (fun _ => (SF rfl (SF rfl (SF rfl (SF rfl gZ))))) (fun Fs34 H1 G hFr hO => pE (bn (gn ?_)))
       exact ⟨z33.Ok, z33.C9, z33.A8, z33.A5, Fs34.1, Fs34.2.1, Fs34.2.2, _, _, _, hk, hFr, (pk hO [5, 0, 1, 2, 3]), sh⟩
      ·exact As (bn (gn (⟨x2, x3, x5, x29, F27, F28, F30, _, _, _, hk, hFr, (pk hO [1, 2, 3, 4, 5]), sh⟩)))
  ·rintro _ ⟨x10, x11, x13, x15, F12, F14, F16, J, G, H1, hk, hFr, hO, rfl⟩
   refine A4 (AX ?_)
   refine pM (.int _ _) (pE (gn ?_))
   cases hk; exact ⟨_, rfl, F12, F14, F16, _, _, _, hFr, hO, sh⟩
 ·refine D6 (ge (ge (be (have hk := lx hx1 hk; ?_))))
  replace hk := Option.some.inj hk; subst hk; exact Xs (F4, F6, F8) (pk hO [1, 2, 3, 4]) hFr (JV (bJ hq) (JV MO (JV MO (JV MO Yd)))) rfl rfl rfl rfl (by first | exact Or.inl rfl | exact Or.inr rfl)
end
end Go.Proofs.YtphpkphklegfeaaGreat.K
