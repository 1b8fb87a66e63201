/-
 The functions that FnExactDoFrame reaches, as typed Lean functions, and that the interpreter computes them. Part 1 of 4. No conditions.
-/
import Derived.Test.YtphpkphklegfeaaGreatK3
import Derived.Test.YtphpkphklegfeaaGreatProg
set_option linter.unusedVariables false
set_option linter.unusedSimpArgs false
set_option maxRecDepth 100000
set_option autoImplicit true
set_option relaxedAutoImplicit true
namespace Go.Proofs.YtphpkphklegfeaaGreat.K
open Nat renaming beq → dk, ble → fm
open List renaming length_append → an, all_append → dv, replicate → cq, length_replicate → ga, getElem?_eq_some_iff → ak
open Tryz renaming prog → ai
open Option.some renaming inj → av
noncomputable section
variable {H : A6} {lk : Lk}
def hh : Bp := { DS := fun k => bif dk k 15 || dk k 16 || dk k 17 || dk k 28 || dk k 53 || dk k 54 || dk k 55 || dk k 56 || dk k 57 || dk k 88 then [.exact] else [], QW := fun k => dk k 9 || dk k 10 || dk k 24 || dk k 26 || dk k 39 || dk k 40 || dk k 41 || dk k 42 || dk k 43 || dk k 44 || dk k 61 || dk k 68 || dk k 76 || dk k 78 || dk k 95 || dk k 98 || dk k 106 || dk k 115 || dk k 116 || dk k 117, grow := fun k => dk k 63 || dk k 64 || dk k 65 || dk k 66 || dk k 94 || dk k 99 || dk k 114, H4 := fun k => dk k 40 || dk k 41 || dk k 44 || dk k 58 || dk k 61 || dk k 63 || dk k 93 }
structure Af where
 Switch : Int
 CK : Int
instance : AL Af := ⟨2, by decide, fun l x => AL.Ba l x.Switch ++ (AL.Ba l x.CK), fun x => by simp only [an, AL.len]; rfl, fun x h => by simp only [C2, AL.Fx _ h]; rfl, fun x => by simp only [dv, AL.cell]; rfl⟩
instance : Aw Af := Aw.via (fun x => (x.Switch, x.CK) : Af → Int × Int) rfl fun _ _ => rfl
instance : Hd Af := ⟨fun h => Hd.inv (α := Int × Int) h⟩
instance : JT Af := ⟨fun h d => JT.cl (α := Int × Int) h d⟩
instance : D6 Af := ⟨fun G x => D6.fl (α := Int × Int) G (x.Switch, x.CK), fun l x => D6.k9 (α := Int × Int) l (x.Switch, x.CK), D6.pos (α := Int × Int)⟩
theorem O0 : Br Af Int (fun x => x.Switch) (fun x y => { x with Switch := y }) 0 := Br.via (α := Af) (f := (fun x => (x.Switch, x.CK) : Af → Int × Int)) (hz := rfl) (he := fun _ _ => rfl) (Br.fst) fun _ _ => rfl
theorem Sl : Br Af Int (fun x => x.CK) (fun x y => { x with CK := y }) 1 := Br.via (α := Af) (f := (fun x => (x.Switch, x.CK) : Af → Int × Int)) (hz := rfl) (he := fun _ _ => rfl) (Br.snd) fun _ _ => rfl
structure CA where
 A0 : List Int
 AJ : List Af
 A7 : List Af
 Bl : List Int
 Ci : List Int
instance : AL CA := ⟨5, by decide, fun l x => AL.Ba l x.A0 ++ (AL.Ba l x.AJ ++ (AL.Ba l x.A7 ++ (AL.Ba l x.Bl ++ (AL.Ba l x.Ci)))), fun x => by simp only [an, AL.len]; rfl, fun x h => by simp only [C2, AL.Fx _ h]; rfl, fun x => by simp only [dv, AL.cell]; rfl⟩
abbrev DG (a b c d e f g h i j : Nat) (x : CA) : List V := [AK a b x.A0, AK c d x.AJ, AK e f x.A7, AK g h x.Bl, AK i j x.Ci]
instance : Aw CA := Aw.via (fun x => (x.A0, x.AJ, x.A7, x.Bl, x.Ci) : CA → (List Int) × (List Af) × (List Af) × (List Int) × (List Int)) rfl fun _ _ => rfl
instance : JT CA := ⟨fun h d => JT.cl (α := (List Int) × (List Af) × (List Af) × (List Int) × (List Int)) h d⟩
theorem Mw : Br CA (List Int) (fun x => x.A0) (fun x y => { x with A0 := y }) 0 := Br.via (α := CA) (f := (fun x => (x.A0, x.AJ, x.A7, x.Bl, x.Ci) : CA → (List Int) × (List Af) × (List Af) × (List Int) × (List Int))) (hz := rfl) (he := fun _ _ => rfl) (Br.fst) fun _ _ => rfl
theorem Sn : Br CA (List Af) (fun x => x.AJ) (fun x y => { x with AJ := y }) 1 := Br.via (α := CA) (f := (fun x => (x.A0, x.AJ, x.A7, x.Bl, x.Ci) : CA → (List Int) × (List Af) × (List Af) × (List Int) × (List Int))) (hz := rfl) (he := fun _ _ => rfl) (Br.comp Br.snd (Br.fst)) fun _ _ => rfl
theorem Pg : Br CA (List Af) (fun x => x.A7) (fun x y => { x with A7 := y }) 2 := Br.via (α := CA) (f := (fun x => (x.A0, x.AJ, x.A7, x.Bl, x.Ci) : CA → (List Int) × (List Af) × (List Af) × (List Int) × (List Int))) (hz := rfl) (he := fun _ _ => rfl) (Br.comp Br.snd (Br.comp Br.snd (Br.fst))) fun _ _ => rfl
theorem Sp : Br CA (List Int) (fun x => x.Bl) (fun x y => { x with Bl := y }) 3 := Br.via (α := CA) (f := (fun x => (x.A0, x.AJ, x.A7, x.Bl, x.Ci) : CA → (List Int) × (List Af) × (List Af) × (List Int) × (List Int))) (hz := rfl) (he := fun _ _ => rfl) (Br.comp Br.snd (Br.comp Br.snd (Br.comp Br.snd (Br.fst)))) fun _ _ => rfl
theorem So : Br CA (List Int) (fun x => x.Ci) (fun x y => { x with Ci := y }) 4 := Br.via (α := CA) (f := (fun x => (x.A0, x.AJ, x.A7, x.Bl, x.Ci) : CA → (List Int) × (List Af) × (List Af) × (List Int) × (List Int))) (hz := rfl) (he := fun _ _ => rfl) (Br.comp Br.snd (Br.comp Br.snd (Br.comp Br.snd (Br.snd)))) fun _ _ => rfl
theorem kX {H : A6} {d n : Nat} {rs rs1 : List BK} {cs : List V} {x : CA} (h : NT n H d rs cs (x.A0, x.AJ, x.A7, x.Bl, x.Ci) rs1) : NT n H d rs cs x rs1 := h
theorem qS {H G : A6} {rs : List BK} {S F : List Nat} {x : CA} {cs : List V} {j : Nat} (hO : A4 H G rs) (hj : rs[j]? = some (AI S F x cs)) (lv n : Nat) (hn : fm (Aw.dep CA) n = true := by rfl) : ∃ M, Ax lv G (n + 1) (.agg cs) = some (.agg [AK lv 0 x.A0, AK lv 0 x.AJ, AK lv 0 x.A7, AK lv 0 x.Bl, AK lv 0 x.Ci], M) := by
 have h := N1 hO hj lv n hn
 have e : AL.Ba lv x = [AK lv 0 x.A0, AK lv 0 x.AJ, AK lv 0 x.A7, AK lv 0 x.Bl, AK lv 0 x.Ci] := by
  show ([AK lv lv x.A0, AK lv lv x.AJ, AK lv lv x.A7, AK lv lv x.Bl, AK lv lv x.Ci] : List V) = _
  simp only [AK, Hw]
 rwa [e] at h
structure AT where
 A0 : Int
 A5 : List Int
 A3 : List CA
 Bk : List (List Bool)
 DX : Int
instance : AL AT := ⟨5, by decide, fun l x => AL.Ba l x.A0 ++ (AL.Ba l x.A5 ++ (AL.Ba l x.A3 ++ (AL.Ba l x.Bk ++ (AL.Ba l x.DX)))), fun x => by simp only [an, AL.len]; rfl, fun x h => by simp only [C2, AL.Fx _ h]; rfl, fun x => by simp only [dv, AL.cell]; rfl⟩
abbrev AY (a b c d e f : Nat) (x : AT) : List V := [.int .i64 x.A0, AK a b x.A5, AK c d x.A3, AK e f x.Bk, .int .i64 x.DX]
instance : Aw AT := Aw.via (fun x => (x.A0, x.A5, x.A3, x.Bk, x.DX) : AT → Int × (List Int) × (List CA) × (List (List Bool)) × Int) rfl fun _ _ => rfl
instance : JT AT := ⟨fun h d => JT.cl (α := Int × (List Int) × (List CA) × (List (List Bool)) × Int) h d⟩
theorem Lu : Br AT (List Int) (fun x => x.A5) (fun x y => { x with A5 := y }) 1 := Br.via (α := AT) (f := (fun x => (x.A0, x.A5, x.A3, x.Bk, x.DX) : AT → Int × (List Int) × (List CA) × (List (List Bool)) × Int)) (hz := rfl) (he := fun _ _ => rfl) (Br.comp Br.snd (Br.fst)) fun _ _ => rfl
theorem Qk : Br AT (List CA) (fun x => x.A3) (fun x y => { x with A3 := y }) 2 := Br.via (α := AT) (f := (fun x => (x.A0, x.A5, x.A3, x.Bk, x.DX) : AT → Int × (List Int) × (List CA) × (List (List Bool)) × Int)) (hz := rfl) (he := fun _ _ => rfl) (Br.comp Br.snd (Br.comp Br.snd (Br.fst))) fun _ _ => rfl
theorem Qj : Br AT (List (List Bool)) (fun x => x.Bk) (fun x y => { x with Bk := y }) 3 := Br.via (α := AT) (f := (fun x => (x.A0, x.A5, x.A3, x.Bk, x.DX) : AT → Int × (List Int) × (List CA) × (List (List Bool)) × Int)) (hz := rfl) (he := fun _ _ => rfl) (Br.comp Br.snd (Br.comp Br.snd (Br.comp Br.snd (Br.fst)))) fun _ _ => rfl
theorem fQ {H : A6} {d n : Nat} {rs rs1 : List BK} {cs : List V} {x : AT} (h : NT n H d rs cs (x.A0, x.A5, x.A3, x.Bk, x.DX) rs1) : NT n H d rs cs x rs1 := h
theorem M9 {H G : A6} {rs : List BK} {S F : List Nat} {x : AT} {cs : List V} {j : Nat} (hO : A4 H G rs) (hj : rs[j]? = some (AI S F x cs)) (lv n : Nat) (hn : fm (Aw.dep AT) n = true := by rfl) : ∃ M, Ax lv G (n + 1) (.agg cs) = some (.agg [.int .i64 x.A0, AK lv 0 x.A5, AK lv lv x.A3, AK lv lv x.Bk, .int .i64 x.DX], M) := by
 have h := N1 hO hj lv n hn
 have e : AL.Ba lv x = [.int .i64 x.A0, AK lv 0 x.A5, AK lv lv x.A3, AK lv lv x.Bk, .int .i64 x.DX] := by
  show ([.int .i64 x.A0, AK lv lv x.A5, AK lv lv x.A3, AK lv lv x.Bk, .int .i64 x.DX] : List V) = _
  simp only [AK, Hw]
 rwa [e] at h
structure AZ where
 Want : Int
 AJ : Int
instance : AL AZ := ⟨2, by decide, fun l x => AL.Ba l x.Want ++ (AL.Ba l x.AJ), fun x => by simp only [an, AL.len]; rfl, fun x h => by simp only [C2, AL.Fx _ h]; rfl, fun x => by simp only [dv, AL.cell]; rfl⟩
instance : Aw AZ := Aw.via (fun x => (x.Want, x.AJ) : AZ → Int × Int) rfl fun _ _ => rfl
instance : Hd AZ := ⟨fun h => Hd.inv (α := Int × Int) h⟩
instance : JT AZ := ⟨fun h d => JT.cl (α := Int × Int) h d⟩
instance : D6 AZ := ⟨fun G x => D6.fl (α := Int × Int) G (x.Want, x.AJ), fun l x => D6.k9 (α := Int × Int) l (x.Want, x.AJ), D6.pos (α := Int × Int)⟩
theorem Ej : Br AZ Int (fun x => x.Want) (fun x y => { x with Want := y }) 0 := Br.via (α := AZ) (f := (fun x => (x.Want, x.AJ) : AZ → Int × Int)) (hz := rfl) (he := fun _ _ => rfl) (Br.fst) fun _ _ => rfl
theorem HN : Br AZ Int (fun x => x.AJ) (fun x y => { x with AJ := y }) 1 := Br.via (α := AZ) (f := (fun x => (x.Want, x.AJ) : AZ → Int × Int)) (hz := rfl) (he := fun _ _ => rfl) (Br.snd) fun _ _ => rfl
structure AD where
 State : Int
 Aj : Int
 Ac : List Bool
 Shown : Bool
 Timer : Int
instance : AL AD := ⟨5, by decide, fun l x => AL.Ba l x.State ++ (AL.Ba l x.Aj ++ (AL.Ba l x.Ac ++ (AL.Ba l x.Shown ++ (AL.Ba l x.Timer)))), fun x => by simp only [an, AL.len]; rfl, fun x h => by simp only [C2, AL.Fx _ h]; rfl, fun x => by simp only [dv, AL.cell]; rfl⟩
instance : Aw AD := Aw.via (fun x => (x.State, x.Aj, x.Ac, x.Shown, x.Timer) : AD → Int × Int × (List Bool) × Bool × Int) rfl fun _ _ => rfl
instance : JT AD := ⟨fun h d => JT.cl (α := Int × Int × (List Bool) × Bool × Int) h d⟩
theorem Al : Br AD Int (fun x => x.State) (fun x y => { x with State := y }) 0 := Br.via (α := AD) (f := (fun x => (x.State, x.Aj, x.Ac, x.Shown, x.Timer) : AD → Int × Int × (List Bool) × Bool × Int)) (hz := rfl) (he := fun _ _ => rfl) (Br.fst) fun _ _ => rfl
theorem C3 : Br AD Int (fun x => x.Aj) (fun x y => { x with Aj := y }) 1 := Br.via (α := AD) (f := (fun x => (x.State, x.Aj, x.Ac, x.Shown, x.Timer) : AD → Int × Int × (List Bool) × Bool × Int)) (hz := rfl) (he := fun _ _ => rfl) (Br.comp Br.snd (Br.fst)) fun _ _ => rfl
theorem D0 : Br AD (List Bool) (fun x => x.Ac) (fun x y => { x with Ac := y }) 2 := Br.via (α := AD) (f := (fun x => (x.State, x.Aj, x.Ac, x.Shown, x.Timer) : AD → Int × Int × (List Bool) × Bool × Int)) (hz := rfl) (he := fun _ _ => rfl) (Br.comp Br.snd (Br.comp Br.snd (Br.fst))) fun _ _ => rfl
theorem Ei : Br AD Bool (fun x => x.Shown) (fun x y => { x with Shown := y }) 3 := Br.via (α := AD) (f := (fun x => (x.State, x.Aj, x.Ac, x.Shown, x.Timer) : AD → Int × Int × (List Bool) × Bool × Int)) (hz := rfl) (he := fun _ _ => rfl) (Br.comp Br.snd (Br.comp Br.snd (Br.comp Br.snd (Br.fst)))) fun _ _ => rfl
theorem CE : Br AD Int (fun x => x.Timer) (fun x y => { x with Timer := y }) 4 := Br.via (α := AD) (f := (fun x => (x.State, x.Aj, x.Ac, x.Shown, x.Timer) : AD → Int × Int × (List Bool) × Bool × Int)) (hz := rfl) (he := fun _ _ => rfl) (Br.comp Br.snd (Br.comp Br.snd (Br.comp Br.snd (Br.snd)))) fun _ _ => rfl
theorem X0 {H : A6} {d n : Nat} {rs rs1 : List BK} {cs : List V} {x : AD} (h : NT n H d rs cs (x.State, x.Aj, x.Ac, x.Shown, x.Timer) rs1) : NT n H d rs cs x rs1 := h
theorem pZ {H G : A6} {rs : List BK} {S F : List Nat} {x : AD} {cs : List V} {j : Nat} (hO : A4 H G rs) (hj : rs[j]? = some (AI S F x cs)) (lv n : Nat) (hn : fm (Aw.dep AD) n = true := by rfl) : ∃ M, Ax lv G (n + 1) (.agg cs) = some (.agg [.int .i64 x.State, .int .i64 x.Aj, AK lv 0 x.Ac, .bool x.Shown, .int .i64 x.Timer], M) := by
 have h := N1 hO hj lv n hn
 have e : AL.Ba lv x = [.int .i64 x.State, .int .i64 x.Aj, AK lv 0 x.Ac, .bool x.Shown, .int .i64 x.Timer] := by
  show ([.int .i64 x.State, .int .i64 x.Aj, AK lv lv x.Ac, .bool x.Shown, .int .i64 x.Timer] : List V) = _
  simp only [AK, Hw]
 rwa [e] at h
structure Frame where
 Ok : Bool
 B1 : List Bool
 A1 : List AZ
 A3 : List AD
instance : AL Frame := ⟨4, by decide, fun l x => AL.Ba l x.Ok ++ (AL.Ba l x.B1 ++ (AL.Ba l x.A1 ++ (AL.Ba l x.A3))), fun x => by simp only [an, AL.len]; rfl, fun x h => by simp only [C2, AL.Fx _ h]; rfl, fun x => by simp only [dv, AL.cell]; rfl⟩
abbrev Ah (a b c d e f : Nat) (x : Frame) : List V := [.bool x.Ok, AK a b x.B1, AK c d x.A1, AK e f x.A3]
instance : Aw Frame := Aw.via (fun x => (x.Ok, x.B1, x.A1, x.A3) : Frame → Bool × (List Bool) × (List AZ) × (List AD)) rfl fun _ _ => rfl
instance : JT Frame := ⟨fun h d => JT.cl (α := Bool × (List Bool) × (List AZ) × (List AD)) h d⟩
theorem Qi : Br Frame (List Bool) (fun x => x.B1) (fun x y => { x with B1 := y }) 1 := Br.via (α := Frame) (f := (fun x => (x.Ok, x.B1, x.A1, x.A3) : Frame → Bool × (List Bool) × (List AZ) × (List AD))) (hz := rfl) (he := fun _ _ => rfl) (Br.comp Br.snd (Br.fst)) fun _ _ => rfl
theorem Mv : Br Frame (List AZ) (fun x => x.A1) (fun x y => { x with A1 := y }) 2 := Br.via (α := Frame) (f := (fun x => (x.Ok, x.B1, x.A1, x.A3) : Frame → Bool × (List Bool) × (List AZ) × (List AD))) (hz := rfl) (he := fun _ _ => rfl) (Br.comp Br.snd (Br.comp Br.snd (Br.fst))) fun _ _ => rfl
theorem Pf : Br Frame (List AD) (fun x => x.A3) (fun x y => { x with A3 := y }) 3 := Br.via (α := Frame) (f := (fun x => (x.Ok, x.B1, x.A1, x.A3) : Frame → Bool × (List Bool) × (List AZ) × (List AD))) (hz := rfl) (he := fun _ _ => rfl) (Br.comp Br.snd (Br.comp Br.snd (Br.snd))) fun _ _ => rfl
theorem Es {H : A6} {d n : Nat} {rs rs1 : List BK} {cs : List V} {x : Frame} (h : NT n H d rs cs (x.Ok, x.B1, x.A1, x.A3) rs1) : NT n H d rs cs x rs1 := h
theorem Jy {H G : A6} {rs : List BK} {S F : List Nat} {x : Frame} {cs : List V} {j : Nat} (hO : A4 H G rs) (hj : rs[j]? = some (AI S F x cs)) (lv n : Nat) (hn : fm (Aw.dep Frame) n = true := by rfl) : ∃ M, Ax lv G (n + 1) (.agg cs) = some (.agg [.bool x.Ok, AK lv 0 x.B1, AK lv 0 x.A1, AK lv lv x.A3], M) := by
 have h := N1 hO hj lv n hn
 have e : AL.Ba lv x = [.bool x.Ok, AK lv 0 x.B1, AK lv 0 x.A1, AK lv lv x.A3] := by
  show ([.bool x.Ok, AK lv lv x.B1, AK lv lv x.A1, AK lv lv x.A3] : List V) = _
  simp only [AK, Hw]
 rwa [e] at h
structure BH where
 Op : Int
 Of : Int
 CK : Int
instance : AL BH := ⟨3, by decide, fun l x => AL.Ba l x.Op ++ (AL.Ba l x.Of ++ (AL.Ba l x.CK)), fun x => by simp only [an, AL.len]; rfl, fun x h => by simp only [C2, AL.Fx _ h]; rfl, fun x => by simp only [dv, AL.cell]; rfl⟩
instance : Aw BH := Aw.via (fun x => (x.Op, x.Of, x.CK) : BH → Int × Int × Int) rfl fun _ _ => rfl
instance : Hd BH := ⟨fun h => Hd.inv (α := Int × Int × Int) h⟩
instance : JT BH := ⟨fun h d => JT.cl (α := Int × Int × Int) h d⟩
instance : D6 BH := ⟨fun G x => D6.fl (α := Int × Int × Int) G (x.Op, x.Of, x.CK), fun l x => D6.k9 (α := Int × Int × Int) l (x.Op, x.Of, x.CK), D6.pos (α := Int × Int × Int)⟩
structure Aq where
 Code : Int
 Frame : Frame
instance : AL Aq := ⟨5, by decide, fun l x => AL.Ba l x.Code ++ (AL.Ba l x.Frame), fun x => by simp only [an, AL.len]; rfl, fun x h => by simp only [C2, AL.Fx _ h]; rfl, fun x => by simp only [dv, AL.cell]; rfl⟩
instance : Aw Aq := Aw.via (fun x => (x.Code, x.Frame) : Aq → Int × Frame) rfl fun _ _ => rfl
instance : JT Aq := ⟨fun h d => JT.cl (α := Int × Frame) h d⟩
theorem KY : Br Aq Frame (fun x => x.Frame) (fun x y => { x with Frame := y }) 1 := Br.via (α := Aq) (f := (fun x => (x.Code, x.Frame) : Aq → Int × Frame)) (hz := rfl) (he := fun _ _ => rfl) (Br.snd) fun _ _ => rfl
theorem Dr {H : A6} {d n : Nat} {rs rs1 : List BK} {cs : List V} {x : Aq} (h : NT n H d rs cs (x.Code, x.Frame) rs1) : NT n H d rs cs x rs1 := h
theorem Dl {H G : A6} {rs : List BK} {S F : List Nat} {x : Aq} {cs : List V} {j : Nat} (hO : A4 H G rs) (hj : rs[j]? = some (AI S F x cs)) (lv n : Nat) (hn : fm (Aw.dep Aq) n = true := by rfl) : ∃ M, Ax lv G (n + 1) (.agg cs) = some (.agg [.int .i64 x.Code, .bool x.Frame.Ok, AK lv 0 x.Frame.B1, AK lv 0 x.Frame.A1, AK lv lv x.Frame.A3], M) := by
 have h := N1 hO hj lv n hn
 have e : AL.Ba lv x = [.int .i64 x.Code, .bool x.Frame.Ok, AK lv 0 x.Frame.B1, AK lv 0 x.Frame.A1, AK lv lv x.Frame.A3] := by
  show ([.int .i64 x.Code, .bool x.Frame.Ok, AK lv lv x.Frame.B1, AK lv lv x.Frame.A1, AK lv lv x.Frame.A3] : List V) = _
  simp only [AK, Hw]
 rwa [e] at h
structure Bt where
 Code : Int
 At : Int
instance : AL Bt := ⟨2, by decide, fun l x => AL.Ba l x.Code ++ (AL.Ba l x.At), fun x => by simp only [an, AL.len]; rfl, fun x h => by simp only [C2, AL.Fx _ h]; rfl, fun x => by simp only [dv, AL.cell]; rfl⟩
instance : Aw Bt := Aw.via (fun x => (x.Code, x.At) : Bt → Int × Int) rfl fun _ _ => rfl
instance : Hd Bt := ⟨fun h => Hd.inv (α := Int × Int) h⟩
instance : JT Bt := ⟨fun h d => JT.cl (α := Int × Int) h d⟩
instance : D6 Bt := ⟨fun G x => D6.fl (α := Int × Int) G (x.Code, x.At), fun l x => D6.k9 (α := Int × Int) l (x.Code, x.At), D6.pos (α := Int × Int)⟩
structure DK where
 A3 : List Int
 A0 : List Int
 A1 : List Int
instance : AL DK := ⟨3, by decide, fun l x => AL.Ba l x.A3 ++ (AL.Ba l x.A0 ++ (AL.Ba l x.A1)), fun x => by simp only [an, AL.len]; rfl, fun x h => by simp only [C2, AL.Fx _ h]; rfl, fun x => by simp only [dv, AL.cell]; rfl⟩
instance : Aw DK := Aw.via (fun x => (x.A3, x.A0, x.A1) : DK → (List Int) × (List Int) × (List Int)) rfl fun _ _ => rfl
instance : JT DK := ⟨fun h d => JT.cl (α := (List Int) × (List Int) × (List Int)) h d⟩
theorem pJ {H : A6} {d n : Nat} {rs rs1 : List BK} {cs : List V} {x : DK} (h : NT n H d rs cs (x.A3, x.A0, x.A1) rs1) : NT n H d rs cs x rs1 := h
theorem nX {H G : A6} {rs : List BK} {S F : List Nat} {x : DK} {cs : List V} {j : Nat} (hO : A4 H G rs) (hj : rs[j]? = some (AI S F x cs)) (lv n : Nat) (hn : fm (Aw.dep DK) n = true := by rfl) : ∃ M, Ax lv G (n + 1) (.agg cs) = some (.agg [AK lv 0 x.A3, AK lv 0 x.A0, AK lv 0 x.A1], M) := by
 have h := N1 hO hj lv n hn
 have e : AL.Ba lv x = [AK lv 0 x.A3, AK lv 0 x.A0, AK lv 0 x.A1] := by
  show ([AK lv lv x.A3, AK lv lv x.A0, AK lv lv x.A1] : List V) = _
  simp only [AK, Hw]
 rwa [e] at h
theorem UT : B8 ai 26 = some 5 := by rfl
theorem UU : B8 ai 31 = some 4 := by rfl
theorem bC : B8 ai 57 = some 3 := by rfl
theorem aN : Cz ai 26 = some true := by rfl
theorem aR : AR ai 26 1 = some 1 := by rfl
theorem BN : Cz ai 22 = some false := by rfl
theorem DA : IM ai 22 = some false := by rfl
theorem aS : AR ai 26 2 = some 2 := by rfl
theorem oU : Cz ai 23 = some false := by rfl
theorem fO : IM ai 23 = some false := by rfl
theorem pC : B6 ai 23 = some 107 := by rfl
theorem Ri : B8 ai 107 = some 5 := by rfl
theorem gW : Cz ai 107 = some true := by rfl
theorem Wu : AR ai 107 0 = some 0 := by rfl
theorem Wv : AR ai 107 1 = some 1 := by rfl
theorem Wt : Cz ai 105 = some false := by rfl
theorem aY : IM ai 105 = some false := by rfl
theorem Ww : AR ai 107 2 = some 2 := by rfl
theorem Wx : AR ai 107 3 = some 3 := by rfl
theorem Wy : AR ai 107 4 = some 4 := by rfl
theorem aT : AR ai 26 3 = some 3 := by rfl
theorem JX : Cz ai 24 = some false := by rfl
theorem NN : IM ai 24 = some false := by rfl
theorem JZ : B6 ai 24 = some 27 := by rfl
theorem Gs : B8 ai 27 = some 1 := by rfl
theorem C5 : Cz ai 27 = some false := by rfl
theorem Hj : IM ai 27 = some false := by rfl
theorem aO : Cz ai 31 = some true := by rfl
theorem aU : AR ai 31 1 = some 1 := by rfl
theorem aV : AR ai 31 2 = some 2 := by rfl
theorem oV : Cz ai 28 = some false := by rfl
theorem kU : IM ai 28 = some false := by rfl
theorem aW : AR ai 31 3 = some 3 := by rfl
theorem oW : Cz ai 29 = some false := by rfl
theorem fP : IM ai 29 = some false := by rfl
theorem pD : B6 ai 29 = some 109 := by rfl
theorem Rj : B8 ai 109 = some 5 := by rfl
theorem gX : Cz ai 109 = some true := by rfl
theorem Wz : AR ai 109 2 = some 2 := by rfl
theorem kL : Cz ai 57 = some true := by rfl
theorem C0 : B8 ai 37 = some 5 := by rfl
theorem kK : BJ ai 37 = some [.int .i64 0, (.tl 0 []), (.tl 0 []), (.tl 0 []), .int .i64 0] := by rfl
theorem kO : AR ai 26 0 = some 0 := by rfl
theorem B3 : Cz ai 3 = some false := by rfl
theorem ES : AR ai 37 0 = some 0 := by rfl
theorem DB : B8 ai 3 = some 1 := by rfl
theorem CG : B6 ai 22 = some 3 := by rfl
theorem YK : CH ai 3 = some 8 := by rfl
theorem Nv : BJ ai 3 = some [.int .i64 0] := by rfl
theorem D4 : AR ai 37 1 = some 1 := by rfl
theorem ML : B8 ai 22 = some 1 := by rfl
theorem EY : B6 ai 35 = some 115 := by rfl
theorem Ay : B8 ai 115 = some 5 := by rfl
theorem oX : CH ai 115 = some 120 := by rfl
theorem Il : BJ ai 115 = some [(.tl 0 []), (.tl 0 []), (.tl 0 []), (.tl 0 []), (.tl 0 [])] := by rfl
theorem BS : AR ai 115 0 = some 0 := by rfl
theorem Dy : B6 ai 113 = some 122 := by rfl
theorem BA : B8 ai 122 = some 2 := by rfl
theorem UR : CH ai 122 = some 16 := by rfl
theorem Fo : BJ ai 122 = some [.int .i64 0, .int .i64 0] := by rfl
theorem p9 : B6 ai 105 = some 151 := by rfl
theorem bB : B8 ai 151 = some 2 := by rfl
theorem oT : Cz ai 151 = some true := by rfl
theorem fM : AR ai 151 0 = some 0 := by rfl
theorem CU : AR ai 122 0 = some 0 := by rfl
theorem fN : AR ai 151 1 = some 1 := by rfl
theorem E7 : AR ai 122 1 = some 1 := by rfl
theorem G9 : Cz ai 122 = some true := by rfl
theorem ER : AR ai 115 1 = some 1 := by rfl
theorem Nw : B8 ai 113 = some 1 := by rfl
theorem Ed : AR ai 115 2 = some 2 := by rfl
theorem E6 : AR ai 115 3 = some 3 := by rfl
theorem IA : AR ai 115 4 = some 4 := by rfl
theorem Ec : Cz ai 115 = some true := by rfl
theorem BY : AR ai 37 2 = some 2 := by rfl
theorem rK : B8 ai 35 = some 1 := by rfl
theorem rF : CH ai 27 = some 24 := by rfl
theorem rE : BJ ai 27 = some [(.tl 0 [])] := by rfl
theorem Cd : B6 ai 27 = some 4 := by rfl
theorem Eu : B8 ai 4 = some 1 := by rfl
theorem kM : CH ai 4 = some 1 := by rfl
theorem gV : BJ ai 4 = some [.bool false] := by rfl
theorem Fu : Cz ai 4 = some false := by rfl
theorem Er : AR ai 37 3 = some 3 := by rfl
theorem rJ : B8 ai 24 = some 1 := by rfl
theorem kP : AR ai 26 4 = some 4 := by rfl
theorem JL : AR ai 37 4 = some 4 := by rfl
theorem EP : Cz ai 37 = some true := by rfl
theorem BZ : B8 ai 42 = some 4 := by rfl
theorem Qx : BJ ai 42 = some [.bool false, (.tl 0 []), (.tl 0 []), (.tl 0 [])] := by rfl
theorem kQ : AR ai 31 0 = some 0 := by rfl
theorem NL : AR ai 42 0 = some 0 := by rfl
theorem CP : AR ai 42 1 = some 1 := by rfl
theorem Gm : B6 ai 39 = some 98 := by rfl
theorem Dq : B8 ai 98 = some 2 := by rfl
theorem kN : CH ai 98 = some 16 := by rfl
theorem UQ : BJ ai 98 = some [.int .i64 0, .int .i64 0] := by rfl
theorem rG : B6 ai 28 = some 118 := by rfl
theorem bA : B8 ai 118 = some 2 := by rfl
theorem oS : Cz ai 118 = some true := by rfl
theorem fJ : AR ai 118 0 = some 0 := by rfl
theorem GA : AR ai 98 0 = some 0 := by rfl
theorem fK : AR ai 118 1 = some 1 := by rfl
theorem IN : AR ai 98 1 = some 1 := by rfl
theorem TM : Cz ai 98 = some true := by rfl
theorem Cv : AR ai 42 2 = some 2 := by rfl
theorem kV : B8 ai 39 = some 1 := by rfl
theorem Da : B6 ai 40 = some 101 := by rfl
theorem Av : B8 ai 101 = some 5 := by rfl
theorem aQ : CH ai 101 = some 56 := by rfl
theorem G8 : BJ ai 101 = some [.int .i64 0, .int .i64 0, (.tl 0 []), .bool false, .int .i64 0] := by rfl
theorem fF : AR ai 109 0 = some 0 := by rfl
theorem Az : AR ai 101 0 = some 0 := by rfl
theorem fG : AR ai 109 1 = some 1 := by rfl
theorem C7 : AR ai 101 1 = some 1 := by rfl
theorem CC : AR ai 101 2 = some 2 := by rfl
theorem fH : AR ai 109 3 = some 3 := by rfl
theorem DW : AR ai 101 3 = some 3 := by rfl
theorem fI : AR ai 109 4 = some 4 := by rfl
theorem Ce : AR ai 101 4 = some 4 := by rfl
theorem Gl : Cz ai 101 = some true := by rfl
theorem BT : AR ai 42 3 = some 3 := by rfl
theorem kW : B8 ai 40 = some 1 := by rfl
theorem DT : Cz ai 42 = some true := by rfl
theorem NO : B8 ai 61 = some 3 := by rfl
theorem oR : BJ ai 61 = some [.int .i64 0, .int .i64 0, .int .i64 0] := by rfl
theorem kR : AR ai 57 0 = some 0 := by rfl
theorem QV : AR ai 61 0 = some 0 := by rfl
theorem kS : AR ai 57 1 = some 1 := by rfl
theorem CS : AR ai 61 1 = some 1 := by rfl
theorem kT : AR ai 57 2 = some 2 := by rfl
theorem Fb : AR ai 61 2 = some 2 := by rfl
theorem aP : Cz ai 61 = some true := by rfl
theorem EF : B8 ai 59 = some 5 := by rfl
theorem MK : BJ ai 59 = some [.int .i64 0, .bool false, (.tl 0 []), (.tl 0 []), (.tl 0 [])] := by rfl
theorem DN : B8 ai 136 = some 2 := by rfl
theorem GG : BJ ai 136 = some [.int .i64 0, .int .i64 0] := by rfl
theorem Df : Cz ai 35 = some false := by rfl
theorem Im : IM ai 35 = some false := by rfl
theorem HW : FT ai 136 = some [(0, 1), (1, 1)] := by rfl
theorem I9 : Cz ai 136 = some true := by rfl
theorem Db : Cz ai 113 = some false := by rfl
theorem FF : IM ai 113 = some false := by rfl
theorem fL : AR ai 136 0 = some 0 := by rfl
theorem H9 : Cz ai 39 = some false := by rfl
theorem O3 : IM ai 39 = some false := by rfl
theorem DZ : Cz ai 40 = some false := by rfl
theorem Hk : IM ai 40 = some false := by rfl
theorem rH : FT ai 42 = some [(0, 1), (1, 1), (2, 1), (3, 1)] := by rfl
theorem Rh : B6 ai 128 = some 113 := by rfl
theorem aM : BJ ai 113 = some [(.tl 0 [])] := by rfl
theorem aZ : IM ai 128 = some false := by rfl
theorem hJ : B6 ai 146 = some 22 := by rfl
theorem rD : BJ ai 22 = some [(.tl 0 [])] := by rfl
theorem pI : IM ai 146 = some false := by rfl
theorem hZ : FT ai 101 = some [(0, 1), (1, 1), (2, 1), (3, 1), (4, 1)] := by rfl
theorem US : FT ai 59 = some [(0, 1), (1, 4)] := by rfl
theorem JY : Cz ai 59 = some true := by rfl
theorem MM : B8 ai 52 = some 3 := by rfl
theorem Y9 : BJ ai 52 = some [(.tl 0 []), (.tl 0 []), (.tl 0 [])] := by rfl
theorem QT : AR ai 52 0 = some 0 := by rfl
theorem QU : AR ai 52 1 = some 1 := by rfl
theorem NM : AR ai 52 2 = some 2 := by rfl
theorem fE : Cz ai 52 = some true := by rfl
theorem gY : Tryz.f114.body.bind G0 = some 113 := by rfl
theorem hQ : Qr ai 156 = some (.one .i, 4) := by decide +kernel
theorem sD : Qb ai 4 = some (Ja.pv (false : Bool)) := by rfl
theorem pG : JP ai 136 = some [.i, .i] := by decide +kernel
theorem gZ : Tryz.f115.body.bind G0 = some 27 := by rfl
theorem oY : Tryz.f116.body.bind G0 = some 39 := by rfl
theorem oZ : Tryz.f117.body.bind G0 = some 40 := by rfl
theorem rI : FT ai 98 = some [(0, 1), (1, 1)] := by rfl
theorem pH : JP ai 98 = some [.i, .i] := by decide +kernel
theorem aX : AR ai 59 0 = some 0 := by rfl
theorem TN : AR ai 59 1 = some 1 := by rfl
def gH (aA0 : List Int) (aLeft1 : Int) : Option Int :=
 (bif decide ((BE (aLeft1 - (aA0.length : Int))) < 0) then some (-1:Int) else some (BE (aLeft1 - (aA0.length : Int))))
theorem OJ (hk : gH aA0 aLeft1 = some r) (hlk : 0 < lk.length := by simp) : Am ai hh 30 [AK l1 0 aA0, iv aLeft1] H lk = some (iv r, H) := by
 refine AF Tryz.func30 rfl Tryz.ntmps30 Tryz.results30 rfl rfl fun hO => ?_
 unfold gH at hk
 refine sr (pA (.int _ _) (pg (sr ?_)))
 refine pM (.int _ _) ?_
 refine pM (.lit _ _ _) ?_
 refine Ae DA ?_
 refine AO ?_
 refine pA (.int _ _) (pg (AV (sr ?_)))
 refine pM (.int _ _) ?_
 refine AO (pg (Ak hk ?_ ?_)) <;> intro hk
 ·refine sr (pA (.int _ _) (pg (Au (gr ?_))))
  cases hk; exact AQ hO
 refine Ao (gn (sr (pM (.int _ _) ?_)))
 refine pA (.int _ _) (pg (Au ?_))
 cases hk; exact AQ hO
def XV (aA0 : List Af) (aLeft1 : Int) : Option Int :=
 (bif decide ((BE (aLeft1 - (aA0.length : Int))) < 0) then some (-1:Int) else some (BE (aLeft1 - (aA0.length : Int))))
theorem Ta (hk : XV aA0 aLeft1 = some r) (hlk : 0 < lk.length := by simp) : Am ai hh 103 [AK l1 0 aA0, iv aLeft1] H lk = some (iv r, H) := by
 refine AF Tryz.func103 rfl Tryz.ntmps103 Tryz.results103 rfl rfl fun hO => ?_
 unfold XV at hk
 refine sr (pA (.int _ _) (pg (sr ?_)))
 refine pM (.int _ _) ?_
 refine pM (.lit _ _ _) ?_
 refine Ae aY ?_
 refine AO ?_
 refine pA (.int _ _) (pg (AV (sr ?_)))
 refine pM (.int _ _) ?_
 refine AO (pg (Ak hk ?_ ?_)) <;> intro hk
 ·refine sr (pA (.int _ _) (pg (Au (gr ?_))))
  cases hk; exact AQ hO
 refine Ao (gn (sr (pM (.int _ _) ?_)))
 refine pA (.int _ _) (pg (Au ?_))
 cases hk; exact AQ hO
def lL (aA0 : CA) (aLeft1 : Int) : Option Int :=
 ((gH aA0.A0 aLeft1).bind fun v2 => (bif decide (v2 < 0) then some (-1:Int) else ((XV aA0.AJ v2).bind fun v3 => (bif decide (v3 < 0) then some (-1:Int) else ((XV aA0.A7 v3).bind fun v4 => (bif decide (v4 < 0) then some (-1:Int) else ((gH aA0.Bl v4).bind fun v5 => (bif decide (v5 < 0) then some (-1:Int) else ((gH aA0.Ci v5).bind fun v6 => (bif decide (v6 < 0) then some (-1:Int) else some v6))))))))))
theorem dR (hk : lL aA0 aLeft1 = some r) (hlk : 0 < lk.length := by simp) : Am ai hh 70 [.agg (DG l1 0 l2 0 l3 0 l4 0 l5 0 aA0), iv aLeft1] H lk = some (iv r, H) := by
 refine AF Tryz.func70 rfl Tryz.ntmps70 Tryz.results70 rfl rfl fun hO => ?_
 unfold lL at hk
 refine sr (BR (cs := [_, _, _, _, _]) hO Ri (fun b1 G hO => ?_))
 refine pA (.int _ _) (pg (sr ?_))
 refine Ad Wu hO 0 (.lit _ _ _) BN ?_
 refine pM (.int _ _) (bk hk fun v2 hv2 hk => ?_)
 refine AM (fun _ => OJ hv2) ?_
 refine pA (.int _ _) (pg (AV (sr ?_)))
 refine pM (.int _ _) ?_
 refine AO (pg (Ak hk ?_ ?_)) <;> intro hk
 ·refine sr (pA (.int _ _) (pg (Au (gr ?_))))
  cases hk; exact AQ hO
 refine Ao (gn (sr (Ad Wv hO 0 (.lit _ _ _) Wt ?_)))
 refine pM (.int _ _) (bk hk fun v3 hv3 hk => ?_)
 refine AM (fun _ => Ta hv3) ?_
 refine pA (.int _ _) (pg (AV (sr ?_)))
 refine pM (.int _ _) ?_
 refine AO (pg (Ak hk ?_ ?_)) <;> intro hk
 ·refine sr (pA (.int _ _) (pg (Au (gr ?_))))
  cases hk; exact AQ hO
 refine Ao (gn (sr (Ad Ww hO 0 (.lit _ _ _) Wt ?_)))
 refine pM (.int _ _) (bk hk fun v4 hv4 hk => ?_)
 refine AM (fun _ => Ta hv4) ?_
 refine pA (.int _ _) (pg (AV (sr ?_)))
 refine pM (.int _ _) ?_
 refine AO (pg (Ak hk ?_ ?_)) <;> intro hk
 ·refine sr (pA (.int _ _) (pg (Au (gr ?_))))
  cases hk; exact AQ hO
 refine Ao (gn (sr (Ad Wx hO 0 (.lit _ _ _) BN ?_)))
 refine pM (.int _ _) (bk hk fun v5 hv5 hk => ?_)
 refine AM (fun _ => OJ hv5) ?_
 refine pA (.int _ _) (pg (AV (sr ?_)))
 refine pM (.int _ _) ?_
 refine AO (pg (Ak hk ?_ ?_)) <;> intro hk
 ·refine sr (pA (.int _ _) (pg (Au (gr ?_))))
  cases hk; exact AQ hO
 refine Ao (gn (sr (Ad Wy hO 0 (.lit _ _ _) BN ?_)))
 refine pM (.int _ _) (bk hk fun v6 hv6 hk => ?_)
 refine AM (fun _ => OJ hv6) ?_
 refine pA (.int _ _) (pg (AV (sr ?_)))
 refine pM (.int _ _) ?_
 refine AO (pg (Ak hk ?_ ?_)) <;> intro hk
 ·refine sr (pA (.int _ _) (pg (Au (gr ?_))))
  cases hk; exact AQ hO
 refine Ao (gn (sr (pM (.int _ _) ?_)))
 refine pA (.int _ _) (pg (Au ?_))
 cases hk; exact AQ hO
def SF (aA0 : List CA) : (Int × Int) → Option ((Int × Int) ⊕ Int) := fun s =>
 (bif decide (s.2 < (aA0.length : Int)) then ((AH aA0 s.2).bind fun c3 => ((lL c3 s.1).bind fun v4 => (bif decide (v4 < 0) then ((some (-1:Int)).map Sum.inr) else some (.inl (v4, BE (s.2 + 1)))))) else ((some s.1).map Sum.inr))
def mK (aA0 : List CA) (aLeft1 : Int) : Option Int :=
 (bif decide ((BE (aLeft1 - (aA0.length : Int))) < 0) then some (-1:Int) else (AG (SF aA0) (BE (aLeft1 - (aA0.length : Int)), (0:Int))))
theorem cP (hk : mK aA0 aLeft1 = some r) (hlk : 0 < lk.length := by simp) : Am ai hh 31 [AK l1 m2 aA0, iv aLeft1] H lk = some (iv r, H) := by
 refine AF Tryz.func31 rfl Tryz.ntmps31 Tryz.results31 rfl rfl fun hO => ?_
 unfold mK at hk
 refine sr (pA (.int _ _) (pg (sr ?_)))
 refine pM (.int _ _) ?_
 refine pM (.lit _ _ _) ?_
 refine Ae fO ?_
 refine AO ?_
 refine pA (.int _ _) (pg (AV (sr ?_)))
 refine pM (.int _ _) ?_
 refine AO (pg (Ak hk ?_ ?_)) <;> intro hk
 ·refine sr (pA (.int _ _) (pg (Au (gr ?_))))
  cases hk; exact AQ hO
 refine Ao (gn (AV (sr (pA (.int _ _) (pg (BO ?_))))))
 refine A9 (F := SF aA0) (fun s S' => ∃ J G, A4 H G [] ∧ S' = ⟨CM [(0, AK l1 m2 aA0),(1, iv s.1),(5, iv s.2)] J, G⟩) hk ⟨_, _, hO, sh⟩ ?_
 rintro ⟨x1, x2⟩ _ y1 ⟨J, G, hO, rfl⟩ hk hx1
 refine AV (sr (pM (.int _ _) ?_))
 refine pM (.lit _ _ _) ?_
 refine Ae fO ?_
 refine AO (pg (Ak hk ?_ ?_)) <;> intro hk
 ·refine Ao (gn (AV (BO (sr (pM (.lit _ _ _) ?_)))))
  refine pM (.int _ _) (bk hk fun c3 hc3 hk => ?_)
  refine pX hc3 pC Ri ?_
  refine Bq (.agg [_, _, _, _, _]) (GC (lm := m2) (off := 0) hc3 gW Ri) ?_
  refine pM (.int _ _) (bk hk fun v4 hv4 hk => ?_)
  refine AM (fun _ => dR hv4) ?_
  refine pA (.int _ _) (pg (sr ?_))
  refine pM (.int _ _) ?_
  refine AO (pg (Ak hk ?_ ?_)) <;> intro hk
  ·refine sr (pA (.int _ _) (pg (Au (br (gr (gr (br (gr (have hk := lx hx1 hk; ?_)))))))))
   cases hk; exact AQ hO
  refine Ao (bn (gn (Bs (pM (.int _ _) ?_))))
  refine AO ?_
  refine pA (.int _ _) (pg ?_)
  cases hk; exact ⟨_, rfl, _, _, hO, sh⟩
 refine D5 (ge (ge (be (gn (have hk := lx hx1 hk; sr (pM (.int _ _) ?_))))))
 refine pA (.int _ _) (pg (Au ?_))
 cases hk; exact AQ hO
def gI (aA0 : List Bool) (aLeft1 : Int) : Option Int :=
 (bif decide ((BE (aLeft1 - (aA0.length : Int))) < 0) then some (-1:Int) else some (BE (aLeft1 - (aA0.length : Int))))
theorem SH (hk : gI aA0 aLeft1 = some r) (hlk : 0 < lk.length := by simp) : Am ai hh 33 [AK l1 0 aA0, iv aLeft1] H lk = some (iv r, H) := by
 refine AF Tryz.func33 rfl Tryz.ntmps33 Tryz.results33 rfl rfl fun hO => ?_
 unfold gI at hk
 refine sr (pA (.int _ _) (pg (sr ?_)))
 refine pM (.int _ _) ?_
 refine pM (.lit _ _ _) ?_
 refine Ae Hj ?_
 refine AO ?_
 refine pA (.int _ _) (pg (AV (sr ?_)))
 refine pM (.int _ _) ?_
 refine AO (pg (Ak hk ?_ ?_)) <;> intro hk
 ·refine sr (pA (.int _ _) (pg (Au (gr ?_))))
  cases hk; exact AQ hO
 refine Ao (gn (sr (pM (.int _ _) ?_)))
 refine pA (.int _ _) (pg (Au ?_))
 cases hk; exact AQ hO
def SG (aA0 : List (List Bool)) : (Int × Int) → Option ((Int × Int) ⊕ Int) := fun s =>
 (bif decide (s.2 < (aA0.length : Int)) then ((AH aA0 s.2).bind fun c3 => ((gI c3 s.1).bind fun v4 => (bif decide (v4 < 0) then ((some (-1:Int)).map Sum.inr) else some (.inl (v4, BE (s.2 + 1)))))) else ((some s.1).map Sum.inr))
def mL (aA0 : List (List Bool)) (aLeft1 : Int) : Option Int :=
 (bif decide ((BE (aLeft1 - (aA0.length : Int))) < 0) then some (-1:Int) else (AG (SG aA0) (BE (aLeft1 - (aA0.length : Int)), (0:Int))))
theorem cQ (hk : mL aA0 aLeft1 = some r) (hlk : 0 < lk.length := by simp) : Am ai hh 32 [AK l1 m2 aA0, iv aLeft1] H lk = some (iv r, H) := by
 refine AF Tryz.func32 rfl Tryz.ntmps32 Tryz.results32 rfl rfl fun hO => ?_
 unfold mL at hk
 refine sr (pA (.int _ _) (pg (sr ?_)))
 refine pM (.int _ _) ?_
 refine pM (.lit _ _ _) ?_
 refine Ae NN ?_
 refine AO ?_
 refine pA (.int _ _) (pg (AV (sr ?_)))
 refine pM (.int _ _) ?_
 refine AO (pg (Ak hk ?_ ?_)) <;> intro hk
 ·refine sr (pA (.int _ _) (pg (Au (gr ?_))))
  cases hk; exact AQ hO
 refine Ao (gn (AV (sr (pA (.int _ _) (pg (BO ?_))))))
 refine A9 (F := SG aA0) (fun s S' => ∃ J G, A4 H G [] ∧ S' = ⟨CM [(0, AK l1 m2 aA0),(1, iv s.1),(5, iv s.2)] J, G⟩) hk ⟨_, _, hO, sh⟩ ?_
 rintro ⟨x1, x2⟩ _ y1 ⟨J, G, hO, rfl⟩ hk hx1
 refine AV (sr (pM (.int _ _) ?_))
 refine pM (.lit _ _ _) ?_
 refine Ae NN ?_
 refine AO (pg (Ak hk ?_ ?_)) <;> intro hk
 ·refine Ao (gn (AV (BO (sr (pM (.lit _ _ _) ?_)))))
  refine pM (.int _ _) (bk hk fun c3 hc3 hk => ?_)
  refine pX hc3 JZ Gs ?_
  refine Bq (.lit _ _ _) (Cu (lm := m2) (off := 0) hc3 C5) ?_
  refine pM (.int _ _) (bk hk fun v4 hv4 hk => ?_)
  refine AM (fun _ => SH hv4) ?_
  refine pA (.int _ _) (pg (sr ?_))
  refine pM (.int _ _) ?_
  refine AO (pg (Ak hk ?_ ?_)) <;> intro hk
  ·refine sr (pA (.int _ _) (pg (Au (br (gr (gr (br (gr (have hk := lx hx1 hk; ?_)))))))))
   cases hk; exact AQ hO
  refine Ao (bn (gn (Bs (pM (.int _ _) ?_))))
  refine AO ?_
  refine pA (.int _ _) (pg ?_)
  cases hk; exact ⟨_, rfl, _, _, hO, sh⟩
 refine D5 (ge (ge (be (gn (have hk := lx hx1 hk; sr (pM (.int _ _) ?_))))))
 refine pA (.int _ _) (pg (Au ?_))
 cases hk; exact AQ hO
def f6 (aA0 : AT) (aLeft1 : Int) : Option Int :=
 ((gH aA0.A5 aLeft1).bind fun v2 => (bif decide (v2 < 0) then some (-1:Int) else ((mK aA0.A3 v2).bind fun v3 => (bif decide (v3 < 0) then some (-1:Int) else ((mL aA0.Bk v3).bind fun v4 => (bif decide (v4 < 0) then some (-1:Int) else some v4))))))
theorem jH (hk : f6 aA0 aLeft1 = some r) (hlk : 0 < lk.length := by simp) : Am ai hh 6 [.agg (AY l1 0 l2 m3 l4 m5 aA0), iv aLeft1] H lk = some (iv r, H) := by
 refine AF Tryz.func6 rfl Tryz.ntmps6 Tryz.results6 rfl rfl fun hO => ?_
 unfold f6 at hk
 refine sr (BR (cs := [_, _, _, _, _]) hO UT (fun b1 G hO => ?_))
 refine pA (.int _ _) (pg (sr ?_))
 refine Ad aR hO 0 (.lit _ _ _) BN ?_
 refine pM (.int _ _) (bk hk fun v2 hv2 hk => ?_)
 refine AM (fun _ => OJ hv2) ?_
 refine pA (.int _ _) (pg (AV (sr ?_)))
 refine pM (.int _ _) ?_
 refine AO (pg (Ak hk ?_ ?_)) <;> intro hk
 ·refine sr (pA (.int _ _) (pg (Au (gr ?_))))
  cases hk; exact AQ hO
 refine Ao (gn (sr (Ad aS hO 0 (.lit _ _ _) oU ?_)))
 refine pM (.int _ _) (bk hk fun v3 hv3 hk => ?_)
 refine AM (fun _ => cP hv3) ?_
 refine pA (.int _ _) (pg (AV (sr ?_)))
 refine pM (.int _ _) ?_
 refine AO (pg (Ak hk ?_ ?_)) <;> intro hk
 ·refine sr (pA (.int _ _) (pg (Au (gr ?_))))
  cases hk; exact AQ hO
 refine Ao (gn (sr (Ad aT hO 0 (.lit _ _ _) JX ?_)))
 refine pM (.int _ _) (bk hk fun v4 hv4 hk => ?_)
 refine AM (fun _ => cQ hv4) ?_
 refine pA (.int _ _) (pg (AV (sr ?_)))
 refine pM (.int _ _) ?_
 refine AO (pg (Ak hk ?_ ?_)) <;> intro hk
 ·refine sr (pA (.int _ _) (pg (Au (gr ?_))))
  cases hk; exact AQ hO
 refine Ao (gn (sr (pM (.int _ _) ?_)))
 refine pA (.int _ _) (pg (Au ?_))
 cases hk; exact AQ hO
def mM (aA0 : List AZ) (aLeft1 : Int) : Option Int :=
 (bif decide ((BE (aLeft1 - (aA0.length : Int))) < 0) then some (-1:Int) else some (BE (aLeft1 - (aA0.length : Int))))
theorem cR (hk : mM aA0 aLeft1 = some r) (hlk : 0 < lk.length := by simp) : Am ai hh 34 [AK l1 0 aA0, iv aLeft1] H lk = some (iv r, H) := by
 refine AF Tryz.func34 rfl Tryz.ntmps34 Tryz.results34 rfl rfl fun hO => ?_
 unfold mM at hk
 refine sr (pA (.int _ _) (pg (sr ?_)))
 refine pM (.int _ _) ?_
 refine pM (.lit _ _ _) ?_
 refine Ae kU ?_
 refine AO ?_
 refine pA (.int _ _) (pg (AV (sr ?_)))
 refine pM (.int _ _) ?_
 refine AO (pg (Ak hk ?_ ?_)) <;> intro hk
 ·refine sr (pA (.int _ _) (pg (Au (gr ?_))))
  cases hk; exact AQ hO
 refine Ao (gn (sr (pM (.int _ _) ?_)))
 refine pA (.int _ _) (pg (Au ?_))
 cases hk; exact AQ hO
def lM (aA0 : AD) (aLeft1 : Int) : Option Int :=
 ((gI aA0.Ac aLeft1).bind fun v2 => (bif decide (v2 < 0) then some (-1:Int) else some v2))
theorem dS (hk : lM aA0 aLeft1 = some r) (hlk : 0 < lk.length := by simp) : Am ai hh 71 [.agg [iv aA0.State, iv aA0.Aj, AK l1 0 aA0.Ac, .bool aA0.Shown, iv aA0.Timer], iv aLeft1] H lk = some (iv r, H) := by
 refine AF Tryz.func71 rfl Tryz.ntmps71 Tryz.results71 rfl rfl fun hO => ?_
 unfold lM at hk
 refine sr (BR (cs := [_, _, _, _, _]) hO Rj (fun b1 G hO => ?_))
 refine pA (.int _ _) (pg (sr ?_))
 refine Ad Wz hO 0 (.lit _ _ _) C5 ?_
 refine pM (.int _ _) (bk hk fun v2 hv2 hk => ?_)
 refine AM (fun _ => SH hv2) ?_
 refine pA (.int _ _) (pg (AV (sr ?_)))
 refine pM (.int _ _) ?_
 refine AO (pg (Ak hk ?_ ?_)) <;> intro hk
 ·refine sr (pA (.int _ _) (pg (Au (gr ?_))))
  cases hk; exact AQ hO
 refine Ao (gn (sr (pM (.int _ _) ?_)))
 refine pA (.int _ _) (pg (Au ?_))
 cases hk; exact AQ hO
def SI (aA0 : List AD) : (Int × Int) → Option ((Int × Int) ⊕ Int) := fun s =>
 (bif decide (s.2 < (aA0.length : Int)) then ((AH aA0 s.2).bind fun c3 => ((lM c3 s.1).bind fun v4 => (bif decide (v4 < 0) then ((some (-1:Int)).map Sum.inr) else some (.inl (v4, BE (s.2 + 1)))))) else ((some s.1).map Sum.inr))
def mN (aA0 : List AD) (aLeft1 : Int) : Option Int :=
 (bif decide ((BE (aLeft1 - (aA0.length : Int))) < 0) then some (-1:Int) else (AG (SI aA0) (BE (aLeft1 - (aA0.length : Int)), (0:Int))))
theorem cS (hk : mN aA0 aLeft1 = some r) (hlk : 0 < lk.length := by simp) : Am ai hh 35 [AK l1 m2 aA0, iv aLeft1] H lk = some (iv r, H) := by
 refine AF Tryz.func35 rfl Tryz.ntmps35 Tryz.results35 rfl rfl fun hO => ?_
 unfold mN at hk
 refine sr (pA (.int _ _) (pg (sr ?_)))
 refine pM (.int _ _) ?_
 refine pM (.lit _ _ _) ?_
 refine Ae fP ?_
 refine AO ?_
 refine pA (.int _ _) (pg (AV (sr ?_)))
 refine pM (.int _ _) ?_
 refine AO (pg (Ak hk ?_ ?_)) <;> intro hk
 ·refine sr (pA (.int _ _) (pg (Au (gr ?_))))
  cases hk; exact AQ hO
 refine Ao (gn (AV (sr (pA (.int _ _) (pg (BO ?_))))))
 refine A9 (F := SI aA0) (fun s S' => ∃ J G, A4 H G [] ∧ S' = ⟨CM [(0, AK l1 m2 aA0),(1, iv s.1),(5, iv s.2)] J, G⟩) hk ⟨_, _, hO, sh⟩ ?_
 rintro ⟨x1, x2⟩ _ y1 ⟨J, G, hO, rfl⟩ hk hx1
 refine AV (sr (pM (.int _ _) ?_))
 refine pM (.lit _ _ _) ?_
 refine Ae fP ?_
 refine AO (pg (Ak hk ?_ ?_)) <;> intro hk
 ·refine Ao (gn (AV (BO (sr (pM (.lit _ _ _) ?_)))))
  refine pM (.int _ _) (bk hk fun c3 hc3 hk => ?_)
  refine pX hc3 pD Rj ?_
  refine Bq (.agg [_, _, _, _, _]) (GC (lm := m2) (off := 0) hc3 gX Rj) ?_
  refine pM (.int _ _) (bk hk fun v4 hv4 hk => ?_)
  refine AM (fun _ => dS hv4) ?_
  refine pA (.int _ _) (pg (sr ?_))
  refine pM (.int _ _) ?_
  refine AO (pg (Ak hk ?_ ?_)) <;> intro hk
  ·refine sr (pA (.int _ _) (pg (Au (br (gr (gr (br (gr (have hk := lx hx1 hk; ?_)))))))))
   cases hk; exact AQ hO
  refine Ao (bn (gn (Bs (pM (.int _ _) ?_))))
  refine AO ?_
  refine pA (.int _ _) (pg ?_)
  cases hk; exact ⟨_, rfl, _, _, hO, sh⟩
 refine D5 (ge (ge (be (gn (have hk := lx hx1 hk; sr (pM (.int _ _) ?_))))))
 refine pA (.int _ _) (pg (Au ?_))
 cases hk; exact AQ hO
def f7 (aA0 : Frame) (aLeft1 : Int) : Option Int :=
 ((gI aA0.B1 aLeft1).bind fun v2 => (bif decide (v2 < 0) then some (-1:Int) else ((mM aA0.A1 v2).bind fun v3 => (bif decide (v3 < 0) then some (-1:Int) else ((mN aA0.A3 v3).bind fun v4 => (bif decide (v4 < 0) then some (-1:Int) else some v4))))))
theorem jO (hk : f7 aA0 aLeft1 = some r) (hlk : 0 < lk.length := by simp) : Am ai hh 7 [.agg (Ah l1 0 l2 0 l3 m4 aA0), iv aLeft1] H lk = some (iv r, H) := by
 refine AF Tryz.func7 rfl Tryz.ntmps7 Tryz.results7 rfl rfl fun hO => ?_
 unfold f7 at hk
 refine sr (BR (cs := [_, _, _, _]) hO UU (fun b1 G hO => ?_))
 refine pA (.int _ _) (pg (sr ?_))
 refine Ad aU hO 0 (.lit _ _ _) C5 ?_
 refine pM (.int _ _) (bk hk fun v2 hv2 hk => ?_)
 refine AM (fun _ => SH hv2) ?_
 refine pA (.int _ _) (pg (AV (sr ?_)))
 refine pM (.int _ _) ?_
 refine AO (pg (Ak hk ?_ ?_)) <;> intro hk
 ·refine sr (pA (.int _ _) (pg (Au (gr ?_))))
  cases hk; exact AQ hO
 refine Ao (gn (sr (Ad aV hO 0 (.lit _ _ _) oV ?_)))
 refine pM (.int _ _) (bk hk fun v3 hv3 hk => ?_)
 refine AM (fun _ => cR hv3) ?_
 refine pA (.int _ _) (pg (AV (sr ?_)))
 refine pM (.int _ _) ?_
 refine AO (pg (Ak hk ?_ ?_)) <;> intro hk
 ·refine sr (pA (.int _ _) (pg (Au (gr ?_))))
  cases hk; exact AQ hO
 refine Ao (gn (sr (Ad aW hO 0 (.lit _ _ _) oW ?_)))
 refine pM (.int _ _) (bk hk fun v4 hv4 hk => ?_)
 refine AM (fun _ => cS hv4) ?_
 refine pA (.int _ _) (pg (AV (sr ?_)))
 refine pM (.int _ _) ?_
 refine AO (pg (Ak hk ?_ ?_)) <;> intro hk
 ·refine sr (pA (.int _ _) (pg (Au (gr ?_))))
  cases hk; exact AQ hO
 refine Ao (gn (sr (pM (.int _ _) ?_)))
 refine pA (.int _ _) (pg (Au ?_))
 cases hk; exact AQ hO
def Oy (aA0 : List Int) : ((List Int) × Int) → Option (((List Int) × Int) ⊕ (List Int)) := fun s =>
 (bif decide (s.2 < (aA0.length : Int)) then ((AH aA0 s.2).bind fun c5 => ((AH s.1 s.2).bind fun c6 => some (.inl (s.1.set s.2.toNat c5, BE (s.2 + 1))))) else ((some s.1).map Sum.inr))
def gJ (aA0 : List Int) : Option (List Int) :=
 ((Gv 8 (aA0.length : Int)).bind fun m1 => (AG (Oy aA0) (cq m1 (0 : Int), (0:Int))))
theorem OK (hk : gJ aA0 = some r) (hlk : 0 < lk.length := by simp) : ∃ v H1, Am ai hh 39 [AK l1 0 aA0] H lk = some (v, H1) ∧ IC H r v H1 := by
 refine B0 Tryz.func39 rfl Tryz.ntmps39 Tryz.results39 rfl rfl ?_
 have hO := A4.nil H
 unfold gJ at hk
 refine sr (pA (.tl 0 []) (pg (sr ?_)))
 refine pM (.lit _ _ _) ?_
 refine Ae DA (bk hk fun m1 hm1 hk => ?_)
 refine lQ hO hm1 (0 : Int) CG DB YK Nv (fun b2 G hO => ?_)
 refine pA (.sl _ _ _) (pg (AV (sr ?_)))
 refine pA (.int _ _) (pg (BO ?_))
 refine A9 (F := Oy aA0) (fun s S' => ∃ J G, s.1.length = m1 ∧ A4 H G [.AW b2 (.cells 1 (A8 0 s.1))] ∧ S' = ⟨CM [(0, AK l1 0 aA0),(3, .sl b2 0 m1),(4, iv s.2)] J, G⟩) hk ⟨_, _, ga, hO, sh⟩ ?_
 rintro ⟨x3, x4⟩ _ y1 ⟨J, G, hl3, hO, rfl⟩ hk hx1
 refine AV (sr (pM (.int _ _) ?_))
 refine pM (.lit _ _ _) ?_
 refine Ae DA ?_
 refine AO (pg (Ak hk ?_ ?_)) <;> intro hk
 ·refine Ao (gn (AV (BO (Bs (pM (.sl _ _ _) ?_)))))
  refine pM (.int _ _) ?_
  refine pM (.lit _ _ _) ?_
  refine pM (.int _ _) (bk hk fun c5 hc5 hk => ?_)
  refine pX hc5 CG DB ?_
  refine Bq (.int _ _) (Cu (lm := 0) (off := 0) hc5 B3) (bk hk fun c6 hc6 hk => ?_)
  refine qC hl3 hc6 CG DB ?_
  refine qB hO 0 hc6 DB rfl c5 (.int _ _) (fun G hO => pE (bn (gn (Bs ?_))))
  refine pM (.int _ _) ?_
  refine AO ?_
  refine pA (.int _ _) (pg ?_)
  cases hk; exact ⟨_, rfl, _, _, (List.length_set.trans hl3), hO, sh⟩
 refine D5 (ge (ge (be (gn (have hk := lx hx1 hk; sr (pM (.sl _ _ _) ?_))))))
 refine pA (.sl _ _ _) (pg (Au ?_))
 replace hk := av hk; subst hk; exact L4 hO (MN hl3 hlk 0) (Kc (.sl _ _ _) DQ)
def Yw (aA0 : Af) : Option Af :=
 some aA0
theorem Yx (hk : Yw aA0 = some r) (hlk : 0 < lk.length := by simp) : Am ai hh 121 [.agg [iv aA0.Switch, iv aA0.CK]] H lk = some (.agg [iv r.Switch, iv r.CK], H) := by
 refine AF Tryz.func121 rfl Tryz.ntmps121 Tryz.results121 rfl rfl fun hO => ?_
 unfold Yw at hk
 refine sr (BR (cs := [_, _]) hO bB (fun b1 G hO => C9 hO BA Fo (fun b2 G hO => pg (sr (C9 hO BA Fo (fun b3 G hO => pg (sr ?_)))))))
 refine Ad fM hO 2 (.int _ _) B3 ?_
 refine pF CU ?_
 refine Cg (xs := [_]) hO 0 DB rfl (fun G hO => pg (sr ?_))
 refine Ad fN hO 2 (.int _ _) B3 ?_
 refine pF E7 ?_
 refine Cg (xs := [_]) hO 0 DB rfl (fun G hO => pg (sr ?_))
 refine D9 hO 0 [_, _] G9 BA ?_
 refine Cg (xs := [_, _]) hO 1 BA rfl (fun G hO => pg (Au ?_))
 replace hk := av hk; subst hk; exact He hO (EN (n := 2) (DY (C8 _ _) (DY (C8 _ _) (IG)))) (FB hO 1 [_, _] G9 BA DQ)
def La (aA0 : List Af) : ((List Af) × Int) → Option (((List Af) × Int) ⊕ (List Af)) := fun s =>
 (bif decide (s.2 < (aA0.length : Int)) then ((AH aA0 s.2).bind fun c5 => ((Yw c5).bind fun v6 => ((AH s.1 s.2).bind fun c7 => some (.inl (s.1.set s.2.toNat v6, BE (s.2 + 1)))))) else ((some s.1).map Sum.inr))
def XW (aA0 : List Af) : Option (List Af) :=
 ((Gv 16 (aA0.length : Int)).bind fun m1 => (AG (La aA0) (cq m1 (⟨0, 0⟩ : Af), (0:Int))))
theorem Tc (hk : XW aA0 = some r) (hlk : 0 < lk.length := by simp) : ∃ v H1, Am ai hh 106 [AK l1 0 aA0] H lk = some (v, H1) ∧ IC H r v H1 := by
 refine B0 Tryz.func106 rfl Tryz.ntmps106 Tryz.results106 rfl rfl ?_
 have hO := A4.nil H
 unfold XW at hk
 refine sr (pA (.tl 0 []) (pg (sr ?_)))
 refine pM (.lit _ _ _) ?_
 refine Ae aY (bk hk fun m1 hm1 hk => ?_)
 refine lQ hO hm1 (⟨0, 0⟩ : Af) Dy BA UR Fo (fun b2 G hO => ?_)
 refine pA (.sl _ _ _) (pg (AV (sr ?_)))
 refine pA (.int _ _) (pg (BO ?_))
 refine A9 (F := La aA0) (fun s S' => ∃ J G, s.1.length = m1 ∧ A4 H G [.AW b2 (.cells 2 (A8 0 s.1))] ∧ S' = ⟨CM [(0, AK l1 0 aA0),(3, .sl b2 0 m1),(4, iv s.2)] J, G⟩) hk ⟨_, _, ga, hO, sh⟩ ?_
 rintro ⟨x3, x4⟩ _ y1 ⟨J, G, hl3, hO, rfl⟩ hk hx1
 refine AV (sr (pM (.int _ _) ?_))
 refine pM (.lit _ _ _) ?_
 refine Ae aY ?_
 refine AO (pg (Ak hk ?_ ?_)) <;> intro hk
 ·refine Ao (gn (AV (BO (Bs (pM (.sl _ _ _) ?_)))))
  refine pM (.int _ _) ?_
  refine pM (.lit _ _ _) ?_
  refine pM (.int _ _) (bk hk fun c5 hc5 hk => ?_)
  refine pX hc5 p9 bB ?_
  refine Bq (.agg [_, _]) (GC (lm := 0) (off := 0) hc5 oT bB) (bk hk fun v6 hv6 hk => ?_)
  refine AM (fun _ => Yx hv6) (bk hk fun c7 hc7 hk => ?_)
  refine qC hl3 hc7 Dy BA ?_
  refine qB hO 0 hc7 BA rfl v6 (.agg [_, _]) (fun G hO => pE (bn (gn (Bs ?_))))
  refine pM (.int _ _) ?_
  refine AO ?_
  refine pA (.int _ _) (pg ?_)
  cases hk; exact ⟨_, rfl, _, _, (List.length_set.trans hl3), hO, sh⟩
 refine D5 (ge (ge (be (gn (have hk := lx hx1 hk; sr (pM (.sl _ _ _) ?_))))))
 refine pA (.sl _ _ _) (pg (Au ?_))
 replace hk := av hk; subst hk; exact L4 hO (MN hl3 hlk 0) (Kc (.sl _ _ _) DQ)
def nH (aA0 : CA) : Option CA :=
 ((gJ aA0.A0).bind fun v4 => ((XW aA0.AJ).bind fun v7 => ((XW aA0.A7).bind fun v10 => ((gJ aA0.Bl).bind fun v13 => ((gJ aA0.Ci).bind fun v16 => some ({ A0 := v4, AJ := v7, A7 := v10, Bl := v13, Ci := v16 } : CA))))))
theorem dX (hk : nH aA0 = some r) (hlk : 0 < lk.length := by simp) : ∃ v H1, Am ai hh 76 [.agg (DG l1 0 l2 0 l3 0 l4 0 l5 0 aA0)] H lk = some (v, H1) ∧ GH H r v H1 := by
 refine B0 Tryz.func76 rfl Tryz.ntmps76 Tryz.results76 rfl rfl ?_
 have hO := A4.nil H
 unfold nH at hk
 refine sr (BR (cs := [_, _, _, _, _]) hO Ri (fun b1 G hO => C9 hO Ay Il (fun b2 G hO => pg (sr (C9 hO Ay Il (fun b3 G hO => pg (sr ?_)))))))
 refine Ad Wu hO 2 (.lit _ _ _) BN (bk hk fun v4 hv4 hk => ?_)
 refine Wj hO (fun _ => OK hv4) (fun u5 F5 G hO => ?_)
 refine pF BS ?_
 have hc6 := AN hO (j := 0) rfl
 refine Cg (xs := [_]) hO 1 ML rfl (fun G hO => ?_) (h3 := hc6.1) (h6 := Bw hc6.2)
 refine pg (sr (Ad Wv hO 3 (.lit _ _ _) Wt (bk hk fun v7 hv7 hk => ?_)))
 refine Wj hO (fun _ => Tc hv7) (fun u8 F8 G hO => ?_)
 refine pF ER ?_
 have hc9 := AN hO (j := 0) rfl
 refine Cg (xs := [_]) hO 2 Nw rfl (fun G hO => ?_) (h3 := hc9.1) (h6 := Bw hc9.2)
 refine pg (sr (Ad Ww hO 4 (.lit _ _ _) Wt (bk hk fun v10 hv10 hk => ?_)))
 refine Wj hO (fun _ => Tc hv10) (fun u11 F11 G hO => ?_)
 refine pF Ed ?_
 have hc12 := AN hO (j := 0) rfl
 refine Cg (xs := [_]) hO 3 Nw rfl (fun G hO => ?_) (h3 := hc12.1) (h6 := Bw hc12.2)
 refine pg (sr (Ad Wx hO 5 (.lit _ _ _) BN (bk hk fun v13 hv13 hk => ?_)))
 refine Wj hO (fun _ => OK hv13) (fun u14 F14 G hO => ?_)
 refine pF E6 ?_
 have hc15 := AN hO (j := 0) rfl
 refine Cg (xs := [_]) hO 4 ML rfl (fun G hO => ?_) (h3 := hc15.1) (h6 := Bw hc15.2)
 refine pg (sr (Ad Wy hO 6 (.lit _ _ _) BN (bk hk fun v16 hv16 hk => ?_)))
 refine Wj hO (fun _ => OK hv16) (fun u17 F17 G hO => ?_)
 refine pF IA ?_
 have hc18 := AN hO (j := 0) rfl
 refine Cg (xs := [_]) hO 5 ML rfl (fun G hO => ?_) (h3 := hc18.1) (h6 := Bw hc18.2)
 refine pg (sr (D9 hO 5 [_, _, _, _, _] Ec Ay ?_))
 have hc19 := AN hO (j := 4) rfl
 have hc20 := AN hO (j := 3) rfl
 have hc21 := AN hO (j := 2) rfl
 have hc22 := AN hO (j := 1) rfl
 have hc23 := AN hO (j := 0) rfl
 refine Cg (xs := [_, _, _, _, _]) hO 6 Ay rfl (fun G hO => ?_) (h6 := (Aa hc19.2 (Aa hc20.2 (Aa hc21.2 (Aa hc22.2 (Aa hc23.2 DL))))))
 refine pg (Au ?_)
 replace hk := av hk; subst hk; exact FG hO (kX (As (c1 := [_]) (BW 4) (As (c1 := [_]) (BW 3) (As (c1 := [_]) (BW 2) (As (c1 := [_]) (BW 1) (BW 0)))))) (FB hO 6 [_, _, _, _, _] Ec Ay DQ)
def Oz (aA0 : List CA) : ((List CA) × Int) → Option (((List CA) × Int) ⊕ (List CA)) := fun s =>
 (bif decide (s.2 < (aA0.length : Int)) then ((AH aA0 s.2).bind fun c7 => ((nH c7).bind fun v8 => ((AH s.1 s.2).bind fun c10 => some (.inl (s.1.set s.2.toNat v8, BE (s.2 + 1)))))) else ((some s.1).map Sum.inr))
def mP (aA0 : List CA) : Option (List CA) :=
 ((Gv 120 (aA0.length : Int)).bind fun m1 => (AG (Oz aA0) (cq m1 (⟨[], [], [], [], []⟩ : CA), (0:Int))))
theorem cU (hk : mP aA0 = some r) (hlk : 0 < lk.length := by simp) : ∃ v H1, Am ai hh 40 [AK l1 m2 aA0] H lk = some (v, H1) ∧ IC H r v H1 := by
 refine B0 Tryz.func40 rfl Tryz.ntmps40 Tryz.results40 rfl rfl ?_
 have hO := A4.nil H
 unfold mP at hk
 refine sr (pA (.tl 0 []) (pg (sr ?_)))
 refine pM (.lit _ _ _) ?_
 refine Ae fO (bk hk fun m1 hm1 hk => ?_)
 refine kE hO hm1 (⟨[], [], [], [], []⟩ : CA) EY Ay oX Il (fun G => (show Aw.tr G (⟨[], [], [], [], []⟩ : CA) [(.tl 0 []), (.tl 0 []), (.tl 0 []), (.tl 0 []), (.tl 0 [])] [] from ⟨[_], _, [], [], rfl, rfl, .inl ⟨rfl, rfl, rfl⟩, ⟨[_], _, [], [], rfl, rfl, .inl ⟨rfl, rfl, rfl⟩, ⟨[_], _, [], [], rfl, rfl, .inl ⟨rfl, rfl, rfl⟩, ⟨[_], _, [], [], rfl, rfl, .inl ⟨rfl, rfl, rfl⟩, .inl ⟨rfl, rfl, rfl⟩⟩⟩⟩⟩)) (fun b2 G hO => ?_)
 refine pA (.sl b2 0 m1) (pg (AV (sr ?_)))
 refine pA (.int _ _) (pg (BO ?_))
 refine A9 (F := Oz aA0) (fun s S' => ∃ F5 J G, A4 H G [AI [] F5 s.1 [.sl b2 0 m1]] ∧ S' = ⟨CM [(0, AK l1 m2 aA0),(3, (.sl b2 0 m1)),(4, iv s.2)] J, G⟩) hk ⟨[b2], _, _, hO, sh⟩ ?_
 rintro ⟨x4, x6⟩ _ y1 ⟨F5, J, G, hO, rfl⟩ hk hx1
 refine AV (sr (pM (.int _ _) ?_))
 refine pM (.lit _ _ _) ?_
 refine Ae fO ?_
 refine AO (pg (Ak hk ?_ ?_)) <;> intro hk
 ·refine Ao (gn (AV (BO (Bs (pM (.sl b2 0 m1) ?_)))))
  refine pM (.int _ _) ?_
  refine pM (.lit _ _ _) ?_
  refine pM (.int _ _) (bk hk fun c7 hc7 hk => ?_)
  refine pX hc7 pC Ri ?_
  refine Bq (.agg [_, _, _, _, _]) (GC (lm := m2) (off := 0) hc7 gW Ri) (bk hk fun v8 hv8 hk => ?_)
  refine K8 hO (fun _ => dX hv8) (fun u9 F9 G hO => bk hk fun c10 hc10 hk => ?_)
  refine HZ hO 1 hc10 EY Ay (fun b11 hb11 => ?_)
  refine Zz hO 0 hb11 hc10 Ay rfl (fun G hO => pE (bn (gn (Bs ?_))))
  refine pM (.int _ _) ?_
  refine AO ?_
  refine pA (.int _ _) (pg ?_)
  cases hk; exact ⟨_, rfl, (F5 ++ F9), _, _, hO, sh⟩
 refine D5 (ge (ge (be (gn (have hk := lx hx1 hk; sr (pM (.sl b2 0 m1) ?_))))))
 refine pA (.sl b2 0 m1) (pg (Au ?_))
 replace hk := av hk; subst hk; exact L4 hO (BW 0) (Kc (.sl b2 0 m1) DQ)
def P1 (aA0 : List Bool) : ((List Bool) × Int) → Option (((List Bool) × Int) ⊕ (List Bool)) := fun s =>
 (bif decide (s.2 < (aA0.length : Int)) then ((AH aA0 s.2).bind fun c5 => ((AH s.1 s.2).bind fun c6 => some (.inl (s.1.set s.2.toNat c5, BE (s.2 + 1))))) else ((some s.1).map Sum.inr))
def iZ (aA0 : List Bool) : Option (List Bool) :=
 ((Gv 1 (aA0.length : Int)).bind fun m1 => (AG (P1 aA0) (cq m1 (false : Bool), (0:Int))))
theorem SM (hk : iZ aA0 = some r) (hlk : 0 < lk.length := by simp) : ∃ v H1, Am ai hh 42 [AK l1 0 aA0] H lk = some (v, H1) ∧ IC H r v H1 := by
 refine B0 Tryz.func42 rfl Tryz.ntmps42 Tryz.results42 rfl rfl ?_
 have hO := A4.nil H
 unfold iZ at hk
 refine sr (pA (.tl 0 []) (pg (sr ?_)))
 refine pM (.lit _ _ _) ?_
 refine Ae Hj (bk hk fun m1 hm1 hk => ?_)
 refine lQ hO hm1 (false : Bool) Cd Eu kM gV (fun b2 G hO => ?_)
 refine pA (.sl _ _ _) (pg (AV (sr ?_)))
 refine pA (.int _ _) (pg (BO ?_))
 refine A9 (F := P1 aA0) (fun s S' => ∃ J G, s.1.length = m1 ∧ A4 H G [.AW b2 (.cells 1 (A8 0 s.1))] ∧ S' = ⟨CM [(0, AK l1 0 aA0),(3, .sl b2 0 m1),(4, iv s.2)] J, G⟩) hk ⟨_, _, ga, hO, sh⟩ ?_
 rintro ⟨x3, x4⟩ _ y1 ⟨J, G, hl3, hO, rfl⟩ hk hx1
 refine AV (sr (pM (.int _ _) ?_))
 refine pM (.lit _ _ _) ?_
 refine Ae Hj ?_
 refine AO (pg (Ak hk ?_ ?_)) <;> intro hk
 ·refine Ao (gn (AV (BO (Bs (pM (.sl _ _ _) ?_)))))
  refine pM (.int _ _) ?_
  refine pM (.lit _ _ _) ?_
  refine pM (.int _ _) (bk hk fun c5 hc5 hk => ?_)
  refine pX hc5 Cd Eu ?_
  refine Bq (.bool _) (Cu (lm := 0) (off := 0) hc5 Fu) (bk hk fun c6 hc6 hk => ?_)
  refine qC hl3 hc6 Cd Eu ?_
  refine qB hO 0 hc6 Eu rfl c5 (.bool _) (fun G hO => pE (bn (gn (Bs ?_))))
  refine pM (.int _ _) ?_
  refine AO ?_
  refine pA (.int _ _) (pg ?_)
  cases hk; exact ⟨_, rfl, _, _, (List.length_set.trans hl3), hO, sh⟩
 refine D5 (ge (ge (be (gn (have hk := lx hx1 hk; sr (pM (.sl _ _ _) ?_))))))
 refine pA (.sl _ _ _) (pg (Au ?_))
 replace hk := av hk; subst hk; exact L4 hO (MN hl3 hlk 0) (Kc (.sl _ _ _) DQ)
def P0 (aA0 : List (List Bool)) : ((List (List Bool)) × Int) → Option (((List (List Bool)) × Int) ⊕ (List (List Bool))) := fun s =>
 (bif decide (s.2 < (aA0.length : Int)) then ((AH aA0 s.2).bind fun c7 => ((iZ c7).bind fun v8 => ((AH s.1 s.2).bind fun c10 => some (.inl (s.1.set s.2.toNat v8, BE (s.2 + 1)))))) else ((some s.1).map Sum.inr))
def mQ (aA0 : List (List Bool)) : Option (List (List Bool)) :=
 ((Gv 24 (aA0.length : Int)).bind fun m1 => (AG (P0 aA0) (cq m1 ([] : List Bool), (0:Int))))
theorem cV (hk : mQ aA0 = some r) (hlk : 0 < lk.length := by simp) : ∃ v H1, Am ai hh 41 [AK l1 m2 aA0] H lk = some (v, H1) ∧ IC H r v H1 := by
 refine B0 Tryz.func41 rfl Tryz.ntmps41 Tryz.results41 rfl rfl ?_
 have hO := A4.nil H
 unfold mQ at hk
 refine sr (pA (.tl 0 []) (pg (sr ?_)))
 refine pM (.lit _ _ _) ?_
 refine Ae NN (bk hk fun m1 hm1 hk => ?_)
 refine kE hO hm1 ([] : List Bool) JZ Gs rF rE (fun G => (show Aw.tr G ([] : List Bool) [(.tl 0 [])] [] from .inl ⟨rfl, rfl, rfl⟩)) (fun b2 G hO => ?_)
 refine pA (.sl b2 0 m1) (pg (AV (sr ?_)))
 refine pA (.int _ _) (pg (BO ?_))
 refine A9 (F := P0 aA0) (fun s S' => ∃ F5 J G, A4 H G [AI [] F5 s.1 [.sl b2 0 m1]] ∧ S' = ⟨CM [(0, AK l1 m2 aA0),(3, (.sl b2 0 m1)),(4, iv s.2)] J, G⟩) hk ⟨[b2], _, _, hO, sh⟩ ?_
 rintro ⟨x4, x6⟩ _ y1 ⟨F5, J, G, hO, rfl⟩ hk hx1
 refine AV (sr (pM (.int _ _) ?_))
 refine pM (.lit _ _ _) ?_
 refine Ae NN ?_
 refine AO (pg (Ak hk ?_ ?_)) <;> intro hk
 ·refine Ao (gn (AV (BO (Bs (pM (.sl b2 0 m1) ?_)))))
  refine pM (.int _ _) ?_
  refine pM (.lit _ _ _) ?_
  refine pM (.int _ _) (bk hk fun c7 hc7 hk => ?_)
  refine pX hc7 JZ Gs ?_
  refine Bq (.lit _ _ _) (Cu (lm := m2) (off := 0) hc7 C5) (bk hk fun v8 hv8 hk => ?_)
  refine Wj hO (fun _ => SM hv8) (fun u9 F9 G hO => bk hk fun c10 hc10 hk => ?_)
  refine HZ hO 1 hc10 JZ Gs (fun b11 hb11 => ?_)
  refine Zz hO 0 hb11 hc10 Gs rfl (fun G hO => ?_) (h3 := (AN hO (j := 0) rfl).1)
  refine pE (bn (gn (Bs (pM (.int _ _) ?_))))
  refine AO ?_
  refine pA (.int _ _) (pg ?_)
  cases hk; exact ⟨_, rfl, (F5 ++ F9), _, _, hO, sh⟩
 refine D5 (ge (ge (be (gn (have hk := lx hx1 hk; sr (pM (.sl b2 0 m1) ?_))))))
 refine pA (.sl b2 0 m1) (pg (Au ?_))
 replace hk := av hk; subst hk; exact L4 hO (BW 0) (Kc (.sl b2 0 m1) DQ)
def f9 (aA0 : AT) : Option AT :=
 ((gJ aA0.A5).bind fun v4 => ((mP aA0.A3).bind fun v7 => ((mQ aA0.Bk).bind fun v10 => some ({ A0 := aA0.A0, A5 := v4, A3 := v7, Bk := v10, DX := aA0.DX } : AT))))
theorem Si (hk : f9 aA0 = some r) (hlk : 0 < lk.length := by simp) : ∃ v H1, Am ai hh 9 [.agg (AY l1 0 l2 m3 l4 m5 aA0)] H lk = some (v, H1) ∧ GH H r v H1 := by
 refine B0 Tryz.func9 rfl Tryz.ntmps9 Tryz.results9 rfl rfl ?_
 have hO := A4.nil H
 unfold f9 at hk
 refine sr (BR (cs := [_, _, _, _, _]) hO UT (fun b1 G hO => C9 hO C0 kK (fun b2 G hO => pg (sr (C9 hO C0 kK (fun b3 G hO => pg (sr ?_)))))))
 refine Ad kO hO 2 (.int _ _) B3 ?_
 refine pF ES ?_
 refine Cg (xs := [_]) hO 0 DB rfl (fun G hO => pg (sr ?_))
 refine Ad aR hO 2 (.lit _ _ _) BN (bk hk fun v4 hv4 hk => ?_)
 refine Wj hO (fun _ => OK hv4) (fun u5 F5 G hO => ?_)
 refine pF D4 ?_
 have hc6 := AN hO (j := 0) rfl
 refine Cg (xs := [_]) hO 1 ML rfl (fun G hO => ?_) (h3 := hc6.1) (h6 := Bw hc6.2)
 refine pg (sr (Ad aS hO 3 (.lit _ _ _) oU (bk hk fun v7 hv7 hk => ?_)))
 refine Wj hO (fun _ => cU hv7) (fun u8 F8 G hO => ?_)
 refine pF BY ?_
 have hc9 := AN hO (j := 0) rfl
 refine Cg (xs := [_]) hO 2 rK rfl (fun G hO => ?_) (h3 := hc9.1) (h6 := Bw hc9.2)
 refine pg (sr (Ad aT hO 4 (.lit _ _ _) JX (bk hk fun v10 hv10 hk => ?_)))
 refine Wj hO (fun _ => cV hv10) (fun u11 F11 G hO => ?_)
 refine pF Er ?_
 have hc12 := AN hO (j := 0) rfl
 refine Cg (xs := [_]) hO 3 rJ rfl (fun G hO => ?_) (h3 := hc12.1) (h6 := Bw hc12.2)
 refine pg (sr (Ad kP hO 5 (.int _ _) B3 ?_))
 refine pF JL ?_
 refine Cg (xs := [_]) hO 3 DB rfl (fun G hO => pg (sr ?_))
 refine D9 hO 3 [_, _, _, _, _] EP C0 ?_
 have hc13 := AN hO (j := 2) rfl
 have hc14 := AN hO (j := 1) rfl
 have hc15 := AN hO (j := 0) rfl
 refine Cg (xs := [_, _, _, _, _]) hO 4 C0 rfl (fun G hO => ?_) (h6 := (Aa rfl (Aa hc13.2 (Aa hc14.2 (Aa hc15.2 (Aa rfl DL))))))
 refine pg (Au ?_)
 replace hk := av hk; subst hk; exact FG hO (fQ (As (c1 := [_]) (FJ aA0.A0) (As (c1 := [_]) (BW 2) (As (c1 := [_]) (BW 1) (As (c1 := [_]) (BW 0) (FJ aA0.DX)))))) (FB hO 4 [_, _, _, _, _] EP C0 DQ)
def nI (aA0 : AZ) : Option AZ :=
 some aA0
theorem dY (hk : nI aA0 = some r) (hlk : 0 < lk.length := by simp) : Am ai hh 77 [.agg [iv aA0.Want, iv aA0.AJ]] H lk = some (.agg [iv r.Want, iv r.AJ], H) := by
 refine AF Tryz.func77 rfl Tryz.ntmps77 Tryz.results77 rfl rfl fun hO => ?_
 unfold nI at hk
 refine sr (BR (cs := [_, _]) hO bA (fun b1 G hO => C9 hO Dq UQ (fun b2 G hO => pg (sr (C9 hO Dq UQ (fun b3 G hO => pg (sr ?_)))))))
 refine Ad fJ hO 2 (.int _ _) B3 ?_
 refine pF GA ?_
 refine Cg (xs := [_]) hO 0 DB rfl (fun G hO => pg (sr ?_))
 refine Ad fK hO 2 (.int _ _) B3 ?_
 refine pF IN ?_
 refine Cg (xs := [_]) hO 0 DB rfl (fun G hO => pg (sr ?_))
 refine D9 hO 0 [_, _] TM Dq ?_
 refine Cg (xs := [_, _]) hO 1 Dq rfl (fun G hO => pg (Au ?_))
 replace hk := av hk; subst hk; exact He hO (EN (n := 2) (DY (C8 _ _) (DY (C8 _ _) (IG)))) (FB hO 1 [_, _] TM Dq DQ)
def P2 (aA0 : List AZ) : ((List AZ) × Int) → Option (((List AZ) × Int) ⊕ (List AZ)) := fun s =>
 (bif decide (s.2 < (aA0.length : Int)) then ((AH aA0 s.2).bind fun c5 => ((nI c5).bind fun v6 => ((AH s.1 s.2).bind fun c7 => some (.inl (s.1.set s.2.toNat v6, BE (s.2 + 1)))))) else ((some s.1).map Sum.inr))
def mR (aA0 : List AZ) : Option (List AZ) :=
 ((Gv 16 (aA0.length : Int)).bind fun m1 => (AG (P2 aA0) (cq m1 (⟨0, 0⟩ : AZ), (0:Int))))
theorem cW (hk : mR aA0 = some r) (hlk : 0 < lk.length := by simp) : ∃ v H1, Am ai hh 43 [AK l1 0 aA0] H lk = some (v, H1) ∧ IC H r v H1 := by
 refine B0 Tryz.func43 rfl Tryz.ntmps43 Tryz.results43 rfl rfl ?_
 have hO := A4.nil H
 unfold mR at hk
 refine sr (pA (.tl 0 []) (pg (sr ?_)))
 refine pM (.lit _ _ _) ?_
 refine Ae kU (bk hk fun m1 hm1 hk => ?_)
 refine lQ hO hm1 (⟨0, 0⟩ : AZ) Gm Dq kN UQ (fun b2 G hO => ?_)
 refine pA (.sl _ _ _) (pg (AV (sr ?_)))
 refine pA (.int _ _) (pg (BO ?_))
 refine A9 (F := P2 aA0) (fun s S' => ∃ J G, s.1.length = m1 ∧ A4 H G [.AW b2 (.cells 2 (A8 0 s.1))] ∧ S' = ⟨CM [(0, AK l1 0 aA0),(3, .sl b2 0 m1),(4, iv s.2)] J, G⟩) hk ⟨_, _, ga, hO, sh⟩ ?_
 rintro ⟨x3, x4⟩ _ y1 ⟨J, G, hl3, hO, rfl⟩ hk hx1
 refine AV (sr (pM (.int _ _) ?_))
 refine pM (.lit _ _ _) ?_
 refine Ae kU ?_
 refine AO (pg (Ak hk ?_ ?_)) <;> intro hk
 ·refine Ao (gn (AV (BO (Bs (pM (.sl _ _ _) ?_)))))
  refine pM (.int _ _) ?_
  refine pM (.lit _ _ _) ?_
  refine pM (.int _ _) (bk hk fun c5 hc5 hk => ?_)
  refine pX hc5 rG bA ?_
  refine Bq (.agg [_, _]) (GC (lm := 0) (off := 0) hc5 oS bA) (bk hk fun v6 hv6 hk => ?_)
  refine AM (fun _ => dY hv6) (bk hk fun c7 hc7 hk => ?_)
  refine qC hl3 hc7 Gm Dq ?_
  refine qB hO 0 hc7 Dq rfl v6 (.agg [_, _]) (fun G hO => pE (bn (gn (Bs ?_))))
  refine pM (.int _ _) ?_
  refine AO ?_
  refine pA (.int _ _) (pg ?_)
  cases hk; exact ⟨_, rfl, _, _, (List.length_set.trans hl3), hO, sh⟩
 refine D5 (ge (ge (be (gn (have hk := lx hx1 hk; sr (pM (.sl _ _ _) ?_))))))
 refine pA (.sl _ _ _) (pg (Au ?_))
 replace hk := av hk; subst hk; exact L4 hO (MN hl3 hlk 0) (Kc (.sl _ _ _) DQ)
def nJ (aA0 : AD) : Option AD :=
 ((iZ aA0.Ac).bind fun v4 => some ({ State := aA0.State, Aj := aA0.Aj, Ac := v4, Shown := aA0.Shown, Timer := aA0.Timer } : AD))
theorem dZ (hk : nJ aA0 = some r) (hlk : 0 < lk.length := by simp) : ∃ v H1, Am ai hh 78 [.agg [iv aA0.State, iv aA0.Aj, AK l1 0 aA0.Ac, .bool aA0.Shown, iv aA0.Timer]] H lk = some (v, H1) ∧ GH H r v H1 := by
 refine B0 Tryz.func78 rfl Tryz.ntmps78 Tryz.results78 rfl rfl ?_
 have hO := A4.nil H
 unfold nJ at hk
 refine sr (BR (cs := [_, _, _, _, _]) hO Rj (fun b1 G hO => C9 hO Av G8 (fun b2 G hO => pg (sr (C9 hO Av G8 (fun b3 G hO => pg (sr ?_)))))))
 refine Ad fF hO 2 (.int _ _) B3 ?_
 refine pF Az ?_
 refine Cg (xs := [_]) hO 0 DB rfl (fun G hO => pg (sr ?_))
 refine Ad fG hO 2 (.int _ _) B3 ?_
 refine pF C7 ?_
 refine Cg (xs := [_]) hO 0 DB rfl (fun G hO => pg (sr ?_))
 refine Ad Wz hO 2 (.lit _ _ _) C5 (bk hk fun v4 hv4 hk => ?_)
 refine Wj hO (fun _ => SM hv4) (fun u5 F5 G hO => ?_)
 refine pF CC ?_
 have hc6 := AN hO (j := 0) rfl
 refine Cg (xs := [_]) hO 1 Gs rfl (fun G hO => ?_) (h3 := hc6.1) (h6 := Bw hc6.2)
 refine pg (sr (Ad fH hO 3 (.bool _) Fu ?_))
 refine pF DW ?_
 refine Cg (xs := [_]) hO 1 Eu rfl (fun G hO => pg (sr ?_))
 refine Ad fI hO 3 (.int _ _) B3 ?_
 refine pF Ce ?_
 refine Cg (xs := [_]) hO 1 DB rfl (fun G hO => pg (sr ?_))
 refine D9 hO 1 [_, _, _, _, _] Gl Av ?_
 have hc7 := AN hO (j := 0) rfl
 refine Cg (xs := [_, _, _, _, _]) hO 2 Av rfl (fun G hO => ?_) (h6 := (Aa rfl (Aa rfl (Aa hc7.2 (Aa rfl (Aa rfl DL))))))
 refine pg (Au ?_)
 replace hk := av hk; subst hk; exact FG hO (X0 (As (c1 := [_]) (FJ aA0.State) (As (c1 := [_]) (FJ aA0.Aj) (As (c1 := [_]) (BW 0) (As (c1 := [_]) (FD aA0.Shown) (FJ aA0.Timer)))))) (FB hO 2 [_, _, _, _, _] Gl Av DQ)
def P3 (aA0 : List AD) : ((List AD) × Int) → Option (((List AD) × Int) ⊕ (List AD)) := fun s =>
 (bif decide (s.2 < (aA0.length : Int)) then ((AH aA0 s.2).bind fun c7 => ((nJ c7).bind fun v8 => ((AH s.1 s.2).bind fun c10 => some (.inl (s.1.set s.2.toNat v8, BE (s.2 + 1)))))) else ((some s.1).map Sum.inr))
def mS (aA0 : List AD) : Option (List AD) :=
 ((Gv 56 (aA0.length : Int)).bind fun m1 => (AG (P3 aA0) (cq m1 (⟨0, 0, [], false, 0⟩ : AD), (0:Int))))
theorem cX (hk : mS aA0 = some r) (hlk : 0 < lk.length := by simp) : ∃ v H1, Am ai hh 44 [AK l1 m2 aA0] H lk = some (v, H1) ∧ IC H r v H1 := by
 refine B0 Tryz.func44 rfl Tryz.ntmps44 Tryz.results44 rfl rfl ?_
 have hO := A4.nil H
 unfold mS at hk
 refine sr (pA (.tl 0 []) (pg (sr ?_)))
 refine pM (.lit _ _ _) ?_
 refine Ae fP (bk hk fun m1 hm1 hk => ?_)
 refine kE hO hm1 (⟨0, 0, [], false, 0⟩ : AD) Da Av aQ G8 (fun G => (show Aw.tr G (⟨0, 0, [], false, 0⟩ : AD) [iv 0, iv 0, (.tl 0 []), .bool false, iv 0] [] from ⟨[_], _, [], [], rfl, rfl, ⟨rfl, rfl⟩, ⟨[_], _, [], [], rfl, rfl, ⟨rfl, rfl⟩, ⟨[_], _, [], [], rfl, rfl, .inl ⟨rfl, rfl, rfl⟩, ⟨[_], _, [], [], rfl, rfl, ⟨rfl, rfl⟩, ⟨rfl, rfl⟩⟩⟩⟩⟩)) (fun b2 G hO => ?_)
 refine pA (.sl b2 0 m1) (pg (AV (sr ?_)))
 refine pA (.int _ _) (pg (BO ?_))
 refine A9 (F := P3 aA0) (fun s S' => ∃ F5 J G, A4 H G [AI [] F5 s.1 [.sl b2 0 m1]] ∧ S' = ⟨CM [(0, AK l1 m2 aA0),(3, (.sl b2 0 m1)),(4, iv s.2)] J, G⟩) hk ⟨[b2], _, _, hO, sh⟩ ?_
 rintro ⟨x4, x6⟩ _ y1 ⟨F5, J, G, hO, rfl⟩ hk hx1
 refine AV (sr (pM (.int _ _) ?_))
 refine pM (.lit _ _ _) ?_
 refine Ae fP ?_
 refine AO (pg (Ak hk ?_ ?_)) <;> intro hk
 ·refine Ao (gn (AV (BO (Bs (pM (.sl b2 0 m1) ?_)))))
  refine pM (.int _ _) ?_
  refine pM (.lit _ _ _) ?_
  refine pM (.int _ _) (bk hk fun c7 hc7 hk => ?_)
  refine pX hc7 pD Rj ?_
  refine Bq (.agg [_, _, _, _, _]) (GC (lm := m2) (off := 0) hc7 gX Rj) (bk hk fun v8 hv8 hk => ?_)
  refine K8 hO (fun _ => dZ hv8) (fun u9 F9 G hO => bk hk fun c10 hc10 hk => ?_)
  refine HZ hO 1 hc10 Da Av (fun b11 hb11 => ?_)
  refine Zz hO 0 hb11 hc10 Av rfl (fun G hO => pE (bn (gn (Bs ?_))))
  refine pM (.int _ _) ?_
  refine AO ?_
  refine pA (.int _ _) (pg ?_)
  cases hk; exact ⟨_, rfl, (F5 ++ F9), _, _, hO, sh⟩
 refine D5 (ge (ge (be (gn (have hk := lx hx1 hk; sr (pM (.sl b2 0 m1) ?_))))))
 refine pA (.sl b2 0 m1) (pg (Au ?_))
 replace hk := av hk; subst hk; exact L4 hO (BW 0) (Kc (.sl b2 0 m1) DQ)
def gE (aA0 : Frame) : Option Frame :=
 ((iZ aA0.B1).bind fun v4 => ((mR aA0.A1).bind fun v7 => ((mS aA0.A3).bind fun v10 => some ({ Ok := aA0.Ok, B1 := v4, A1 := v7, A3 := v10 } : Frame))))
theorem O8 (hk : gE aA0 = some r) (hlk : 0 < lk.length := by simp) : ∃ v H1, Am ai hh 10 [.agg (Ah l1 0 l2 0 l3 m4 aA0)] H lk = some (v, H1) ∧ GH H r v H1 := by
 refine B0 Tryz.func10 rfl Tryz.ntmps10 Tryz.results10 rfl rfl ?_
 have hO := A4.nil H
 unfold gE at hk
 refine sr (BR (cs := [_, _, _, _]) hO UU (fun b1 G hO => C9 hO BZ Qx (fun b2 G hO => pg (sr (C9 hO BZ Qx (fun b3 G hO => pg (sr ?_)))))))
 refine Ad kQ hO 2 (.bool _) Fu ?_
 refine pF NL ?_
 refine Cg (xs := [_]) hO 0 Eu rfl (fun G hO => pg (sr ?_))
 refine Ad aU hO 2 (.lit _ _ _) C5 (bk hk fun v4 hv4 hk => ?_)
 refine Wj hO (fun _ => SM hv4) (fun u5 F5 G hO => ?_)
 refine pF CP ?_
 have hc6 := AN hO (j := 0) rfl
 refine Cg (xs := [_]) hO 1 Gs rfl (fun G hO => ?_) (h3 := hc6.1) (h6 := Bw hc6.2)
 refine pg (sr (Ad aV hO 3 (.lit _ _ _) oV (bk hk fun v7 hv7 hk => ?_)))
 refine Wj hO (fun _ => cW hv7) (fun u8 F8 G hO => ?_)
 refine pF Cv ?_
 have hc9 := AN hO (j := 0) rfl
 refine Cg (xs := [_]) hO 2 kV rfl (fun G hO => ?_) (h3 := hc9.1) (h6 := Bw hc9.2)
 refine pg (sr (Ad aW hO 4 (.lit _ _ _) oW (bk hk fun v10 hv10 hk => ?_)))
 refine Wj hO (fun _ => cX hv10) (fun u11 F11 G hO => ?_)
 refine pF BT ?_
 have hc12 := AN hO (j := 0) rfl
 refine Cg (xs := [_]) hO 3 kW rfl (fun G hO => ?_) (h3 := hc12.1) (h6 := Bw hc12.2)
 refine pg (sr (D9 hO 3 [_, _, _, _] DT BZ ?_))
 have hc13 := AN hO (j := 2) rfl
 have hc14 := AN hO (j := 1) rfl
 have hc15 := AN hO (j := 0) rfl
 refine Cg (xs := [_, _, _, _]) hO 4 BZ rfl (fun G hO => ?_) (h6 := (Aa rfl (Aa hc13.2 (Aa hc14.2 (Aa hc15.2 DL)))))
 refine pg (Au ?_)
 replace hk := av hk; subst hk; exact FG hO (Es (As (c1 := [_]) (FD aA0.Ok) (As (c1 := [_]) (BW 2) (As (c1 := [_]) (BW 1) (BW 0))))) (FB hO 4 [_, _, _, _] DT BZ DQ)
def iP (aA0 : BH) : Option BH :=
 some aA0
theorem SC (hk : iP aA0 = some r) (hlk : 0 < lk.length := by simp) : Am ai hh 25 [.agg [iv aA0.Op, iv aA0.Of, iv aA0.CK]] H lk = some (.agg [iv r.Op, iv r.Of, iv r.CK], H) := by
 refine AF Tryz.func25 rfl Tryz.ntmps25 Tryz.results25 rfl rfl fun hO => ?_
 unfold iP at hk
 refine sr (BR (cs := [_, _, _]) hO bC (fun b1 G hO => C9 hO NO oR (fun b2 G hO => pg (sr (C9 hO NO oR (fun b3 G hO => pg (sr ?_)))))))
 refine Ad kR hO 2 (.int _ _) B3 ?_
 refine pF QV ?_
 refine Cg (xs := [_]) hO 0 DB rfl (fun G hO => pg (sr ?_))
 refine Ad kS hO 2 (.int _ _) B3 ?_
 refine pF CS ?_
 refine Cg (xs := [_]) hO 0 DB rfl (fun G hO => pg (sr ?_))
 refine Ad kT hO 2 (.int _ _) B3 ?_
 refine pF Fb ?_
 refine Cg (xs := [_]) hO 0 DB rfl (fun G hO => pg (sr ?_))
 refine D9 hO 0 [_, _, _] aP NO ?_
 refine Cg (xs := [_, _, _]) hO 1 NO rfl (fun G hO => pg (Au ?_))
 replace hk := av hk; subst hk; exact He hO (EN (n := 2) (DY (C8 _ _) (DY (C8 _ _) (DY (C8 _ _) (IG))))) (FB hO 1 [_, _, _] aP NO DQ)
def Qc (aX0 : Int) (aA1 : Int) (aB2 : Int) : Option Bool :=
 some (decide (aX0 ≥ aA1) && decide (aX0 ≤ aB2))
theorem Dj (hk : Qc aX0 aA1 aB2 = some r) (hlk : 0 < lk.length := by simp) : Am ai hh 37 [iv aX0, iv aA1, iv aB2] H lk = some (.bool r, H) := by
 refine AF Tryz.func37 rfl Tryz.ntmps37 Tryz.results37 rfl rfl fun hO => ?_
 unfold Qc at hk
 refine sr (pA (.bool _) (pg (sr ?_)))
 refine pM (.int _ _) ?_
 refine pM (.int _ _) ?_
 refine AO ?_
 refine pM (.bool _) ?_
 refine AP (l1 := [_, _, _, _]) [11, 12, 13, 14] 14 (.bool (decide (aX0 ≥ aA1) && decide (aX0 ≤ aB2))) ?_ ?_
 ·refine bc (b := decide (aX0 ≥ aA1)) ?_ ?_ <;> intro hg
  ·refine AA hg (pM (.int _ _) (AA hg ?_))
   refine pM (.int _ _) (AA hg ?_)
   refine AO ?_
   refine Cm hg (.bool _) ?_
   exact pE (ek (by rw [hg]; rfl))
  refine Bg hg (Bg hg (Bg hg (Cl hg (.bool _) ?_)))
  exact pE (ek (by rw [hg]; rfl))
 intro J
 refine pA (.bool _) (pg (Au ?_))
 cases hk; exact AQ hO
def OC (aList0 : List Int) (x1 : Int) (c2 : Int) : Int → Option (Int ⊕ (Int ⊕ Bool)) := fun s =>
 (bif decide (s < x1) then ((AH aList0 s).bind fun c5 => (bif (c5 == c2) then (((some false).map Sum.inr).map Sum.inr) else some (.inl (BE (s + 1))))) else ((some (.inl (BE (x1 + 1)))).map Sum.inr))
def OB (aList0 : List Int) (aN1 : Int) : Int → Option (Int ⊕ Bool) := fun s =>
 (bif decide (s < (aList0.length : Int)) then ((AH aList0 s).bind fun c2 => ((Qc c2 (0:Int) (BE (aN1 - 1))).bind fun v3 => (bif !v3 then ((some false).map Sum.inr) else (AG (OC aList0 s c2) ((0:Int)))))) else ((some (decide ((aList0.length : Int) ≤ 30))).map Sum.inr))
def V0 (aList0 : List Int) (aN1 : Int) : Option Bool :=
 (AG (OB aList0 aN1) ((0:Int)))
theorem Oq (hk : V0 aList0 aN1 = some r) (hlk : 0 < lk.length := by simp) : Am ai hh 128 [AK l1 0 aList0, iv aN1] H lk = some (.bool r, H) := by
 refine AF Tryz.func128 rfl Tryz.ntmps128 Tryz.results128 rfl rfl fun hO => ?_
 unfold V0 at hk
 refine sr (pA (.bool _) (pg (AV (sr ?_))))
 refine pM (.lit _ _ _) ?_
 refine Ae DA ?_
 refine pM (.int _ _) (pg (BO ?_))
 refine A9 (F := OB aList0 aN1) (fun s S' => ∃ J G, A4 H G [] ∧ S' = ⟨CM [(0, AK l1 0 aList0),(1, iv aN1),(8, AK l1 0 aList0),(9, iv (aList0.length : Int)),(10, iv s)] J, G⟩) hk ⟨_, _, hO, sh⟩ ?_
 rintro x1 _ y1 ⟨J, G, hO, rfl⟩ hk hx1
 refine sr (AO (pg (AV (Ak hk ?_ ?_)))) <;> intro hk
 ·refine Ao (gn (AV (BO (sr (pM (.int _ _) (bk hk fun c2 hc2 hk => ?_))))))
  refine pX hc2 CG DB ?_
  refine Bq (.int _ _) (Cu (lm := 0) (off := 0) hc2 B3) ?_
  refine pA (.int _ _) ?_
  refine pA (.int _ _) (pg (AV (sr ?_)))
  refine pM (.int _ _) ?_
  refine pM (.int _ _) ?_
  refine AO (bk hk fun v3 hv3 hk => ?_)
  refine AM (fun _ => Dj hv3) ?_
  refine pU (pg (Ak hk ?_ ?_)) <;> intro hk
  ·refine sr (pA (.bool _) (pg (Au (gr (br (gr (gr (br (gr (have hk := lx hx1 hk; ?_))))))))))
   cases hk; exact AQ hO
  refine Ao (gn (sr (pA (.int _ _) (pg (BO ?_)))))
  refine A9 (F := OC aList0 x1 c2) (fun s S' => ∃ J G, A4 H G [] ∧ S' = ⟨CM [(0, AK l1 0 aList0),(1, iv aN1),(5, iv x1),(6, iv c2),(7, iv s),(8, AK l1 0 aList0),(9, iv (aList0.length : Int)),(10, iv x1)] J, G⟩) hk ⟨_, _, hO, sh⟩ ?_
  rintro x4 _ y2 ⟨J, G, hO, rfl⟩ hk hx2
  refine AV (sr (pM (.int _ _) ?_))
  refine pM (.int _ _) ?_
  refine AO (pg (Ak hk ?_ ?_)) <;> intro hk
  ·refine Ao (gn (AV (BO (sr (pM (.lit _ _ _) ?_)))))
   refine pM (.int _ _) (bk hk fun c5 hc5 hk => ?_)
   refine pX hc5 CG DB ?_
   refine Bq (.int _ _) (Cu (lm := 0) (off := 0) hc5 B3) ?_
   refine pM (.int _ _) ?_
   refine AO (pg (Ak hk ?_ ?_)) <;> intro hk
   ·refine sr (pA (.bool _) (pg (Au (br (gr (gr (br (br (gr (gr (br (gr (have hk := lx hx2 hk; have hk := lx hx1 hk; ?_)))))))))))))
    cases hk; exact AQ hO
   refine Ao (bn (gn (Bs (pM (.int _ _) ?_))))
   refine AO ?_
   refine pA (.int _ _) (pg ?_)
   cases hk; exact ⟨_, rfl, _, _, hO, sh⟩
  refine D5 (ge (ge (be (bn (gn (have hk := lx hx2 hk; Bs (AO ?_)))))))
  refine pM (.int _ _) (pg ?_)
  cases hk; exact ⟨_, rfl, _, _, hO, sh⟩
 refine D5 (ge (ge (be (gn (have hk := lx hx1 hk; sr (pM (.lit _ _ _) ?_))))))
 refine Ae DA ?_
 refine AO ?_
 refine pA (.bool _) (pg (Au ?_))
 cases hk; exact AQ hO
def OE (aList1 : List Af) (x2 : Int) (c3 : Af) : Int → Option (Int ⊕ (Int ⊕ Bool)) := fun s =>
 (bif decide (s < x2) then ((AH aList1 s).bind fun c9 => (bif (c9.Switch == c3.Switch) then (((some false).map Sum.inr).map Sum.inr) else some (.inl (BE (s + 1))))) else ((some (.inl (BE (x2 + 1)))).map Sum.inr))
def OD (aP0 : AT) (aList1 : List Af) : Int → Option (Int ⊕ Bool) := fun s =>
 (bif decide (s < (aList1.length : Int)) then ((AH aList1 s).bind fun c3 => ((Qc c3.Switch (0:Int) (BE ((aP0.A5.length : Int) - 1))).bind fun v5 => ((bif !v5 then some true else ((Qc c3.CK (1:Int) (2:Int)).bind fun v7 => some (!v7))).bind fun t6 => (bif t6 then ((some false).map Sum.inr) else (AG (OE aList1 s c3) ((0:Int))))))) else ((some (decide ((aList1.length : Int) ≤ 30))).map Sum.inr))
def Xa (aP0 : AT) (aList1 : List Af) : Option Bool :=
 (AG (OD aP0 aList1) ((0:Int)))
theorem Ti (hk : Xa aP0 aList1 = some r) (hlk : 0 < lk.length := by simp) : Am ai hh 129 [.agg (AY l1 0 l2 m3 l4 m5 aP0), AK l6 0 aList1] H lk = some (.bool r, H) := by
 refine AF Tryz.func129 rfl Tryz.ntmps129 Tryz.results129 rfl rfl fun hO => ?_
 unfold Xa at hk
 refine sr (BR (cs := [_, _, _, _, _]) hO C0 (fun b1 G hO => ?_))
 refine pA (.bool _) (pg (AV (sr ?_)))
 refine pM (.lit _ _ _) ?_
 refine Ae FF ?_
 refine pM (.int _ _) (pg (BO ?_))
 refine A9 (F := OD aP0 aList1) (fun s S' => ∃ J G, A4 H G [.AW b1 (.cells 5 (AY l1 0 l2 m3 l4 m5 aP0))] ∧ S' = ⟨CM [(1, AK l6 0 aList1),(2, .ptr b1 0),(8, AK l6 0 aList1),(9, iv (aList1.length : Int)),(10, iv s)] J, G⟩) hk ⟨_, _, hO, sh⟩ ?_
 rintro x2 _ y1 ⟨J, G, hO, rfl⟩ hk hx1
 refine sr (AO (pg (AV (Ak hk ?_ ?_)))) <;> intro hk
 ·refine Ao (gn (AV (BO (sr (pM (.int _ _) (bk hk fun c3 hc3 hk => ?_))))))
  refine pX hc3 Dy BA ?_
  refine Bq (.agg [_, _]) (GC (lm := 0) (off := 0) hc3 G9 BA) (C9 hO BA Fo (fun b4 G hO => ?_))
  refine pA (.int _ _) ?_
  refine Cg (xs := [_, _]) hO 0 BA rfl (fun G hO => pg (AV (sr ?_)))
  refine Ad CU hO 0 (.int _ _) B3 ?_
  refine Ad D4 hO 1 (.lit _ _ _) BN ?_
  refine Ae DA ?_
  refine AO (bk hk fun v5 hv5 hk => ?_)
  refine AM (fun _ => Dj hv5) ?_
  refine pU ?_
  refine pM (.bool _) (bk hk fun t6 ht hk => ?_)
  refine AP (l1 := [_, _, _, _, _]) [24, 25, 26, 27, 28] 28 (.bool t6) ?_ ?_
  ·refine bc (b := !v5) ?_ ?_ <;> intro hg
   ·replace hk := ct hg ht
    repeat refine Bg hg ?_
    refine Cm hg (.bool _) ?_
    cases hk; exact pE ek
   replace hk := cf hg ht
   refine AA hg (pF E7 (AA hg ?_))
   refine CT hO 0 (.int _ _) B3 (AA hg (bk hk fun v7 hv7 hk => ?_))
   refine AM (fun _ => Dj hv7) (AA hg ?_)
   refine pU ?_
   refine Cl hg (.bool _) ?_
   cases hk; exact pE ek
  intro J
  refine pg (Ak hk ?_ ?_) <;> intro hk
  ·refine sr (pA (.bool _) (pg (Au (gr (br (gr (gr (br (gr (have hk := lx hx1 hk; ?_))))))))))
   cases hk; exact AQ hO
  refine Ao (gn (sr (pA (.int _ _) (pg (BO ?_)))))
  refine A9 (F := OE aList1 x2 c3) (fun s S' => ∃ J G, A4 H G [.AW b4 (.cells 2 [iv c3.Switch, iv c3.CK]), .AW b1 (.cells 5 (AY l1 0 l2 m3 l4 m5 aP0))] ∧ S' = ⟨CM [(1, AK l6 0 aList1),(2, .ptr b1 0),(5, iv x2),(6, .ptr b4 0),(7, iv s),(8, AK l6 0 aList1),(9, iv (aList1.length : Int)),(10, iv x2)] J, G⟩) hk ⟨_, _, hO, sh⟩ ?_
  rintro x8 _ y2 ⟨J, G, hO, rfl⟩ hk hx2
  refine AV (sr (pM (.int _ _) ?_))
  refine pM (.int _ _) ?_
  refine AO (pg (Ak hk ?_ ?_)) <;> intro hk
  ·refine Ao (gn (AV (BO (AV (HY [1,3,5,7,9,11,13,14] [_,_,_,_,_,_,_,_] ?_)))))
   refine pM (.lit _ _ _) ?_
   refine pM (.int _ _) (bk hk fun c9 hc9 hk => ?_)
   refine pX hc9 Dy BA ?_
   refine pF CU ?_
   refine Bq (.int _ _) (Cu (lm := 0) (off := 0) hc9 B3) ?_
   refine Ad CU hO 0 (.int _ _) B3 ?_
   refine AO (pg (Ak hk ?_ ?_)) <;> intro hk
   ·refine sr (pA (.bool _) (pg (Au (br (gr (gr (br (br (gr (gr (br (gr (have hk := lx hx2 hk; have hk := lx hx1 hk; ?_)))))))))))))
    cases hk; exact AQ hO
   refine Ao (bn (gn (Bs (pM (.int _ _) ?_))))
   refine AO ?_
   refine pA (.int _ _) (pg ?_)
   cases hk; exact ⟨_, rfl, _, _, hO, sh⟩
  refine D5 (ge (ge (be (bn (gn (have hk := lx hx2 hk; Bs (AO ?_)))))))
  refine pM (.int _ _) (pg ?_)
  cases hk; exact ⟨_, rfl, _, _, (pk hO [1]), sh⟩
 refine D5 (ge (ge (be (gn (have hk := lx hx1 hk; sr (pM (.lit _ _ _) ?_))))))
 refine Ae FF ?_
 refine AO ?_
 refine pA (.bool _) (pg (Au ?_))
 cases hk; exact AQ hO
def PV (aB1 : List Int) (x1 : Int) (c2 : Int) : Int → Option (Int ⊕ (Int ⊕ Bool)) := fun s =>
 (bif decide (s < (aB1.length : Int)) then ((AH aB1 s).bind fun c4 => (bif (c2 == c4) then (((some true).map Sum.inr).map Sum.inr) else some (.inl (BE (s + 1))))) else ((some (.inl (BE (x1 + 1)))).map Sum.inr))
def Sd (aA0 : List Int) (aB1 : List Int) : Int → Option (Int ⊕ Bool) := fun s =>
 (bif decide (s < (aA0.length : Int)) then ((AH aA0 s).bind fun c2 => (AG (PV aB1 s c2) ((0:Int)))) else ((some false).map Sum.inr))
def ZF (aA0 : List Int) (aB1 : List Int) : Option Bool :=
 (AG (Sd aA0 aB1) ((0:Int)))
theorem J0 (hk : ZF aA0 aB1 = some r) (hlk : 0 < lk.length := by simp) : Am ai hh 89 [AK l1 0 aA0, AK l2 0 aB1] H lk = some (.bool r, H) := by
 refine AF Tryz.func89 rfl Tryz.ntmps89 Tryz.results89 rfl rfl fun hO => ?_
 unfold ZF at hk
 refine sr (pA (.bool _) (pg (AV (sr ?_))))
 refine pM (.lit _ _ _) ?_
 refine Ae DA ?_
 refine pM (.int _ _) (pg (BO ?_))
 refine A9 (F := Sd aA0 aB1) (fun s S' => ∃ J G, A4 H G [] ∧ S' = ⟨CM [(1, AK l2 0 aB1),(9, AK l1 0 aA0),(10, iv (aA0.length : Int)),(11, iv s)] J, G⟩) hk ⟨_, _, hO, sh⟩ ?_
 rintro x1 _ y1 ⟨J, G, hO, rfl⟩ hk hx1
 refine sr (AO (pg (AV (Ak hk ?_ ?_)))) <;> intro hk
 ·refine Ao (gn (AV (BO (sr (bk hk fun c2 hc2 hk => pX hc2 CG DB ?_)))))
  refine Bq (.int _ _) (Cu (lm := 0) (off := 0) hc2 B3) ?_
  refine pA (.int _ _) (pg (sr ?_))
  refine pM (.lit _ _ _) ?_
  refine Ae DA ?_
  refine pM (.int _ _) (pg (BO ?_))
  refine A9 (F := PV aB1 x1 c2) (fun s S' => ∃ J G, A4 H G [] ∧ S' = ⟨CM [(1, AK l2 0 aB1),(6, iv c2),(9, AK l1 0 aA0),(10, iv (aA0.length : Int)),(11, iv x1),(15, AK l2 0 aB1),(16, iv (aB1.length : Int)),(17, iv s)] J, G⟩) hk ⟨_, _, hO, sh⟩ ?_
  rintro x3 _ y2 ⟨J, G, hO, rfl⟩ hk hx2
  refine sr (AO (pg (AV (Ak hk ?_ ?_)))) <;> intro hk
  ·refine Ao (gn (AV (BO (sr (bk hk fun c4 hc4 hk => pX hc4 CG DB ?_)))))
   refine Bq (.int _ _) (Cu (lm := 0) (off := 0) hc4 B3) ?_
   refine pA (.int _ _) (pg (sr ?_))
   refine pM (.int _ _) ?_
   refine pM (.int _ _) ?_
   refine AO (pg (Ak hk ?_ ?_)) <;> intro hk
   ·refine sr (pA (.bool _) (pg (Au (br (gr (gr (br (br (gr (gr (br (gr (have hk := lx hx2 hk; have hk := lx hx1 hk; ?_)))))))))))))
    cases hk; exact AQ hO
   refine Ao (bn (gn (Bs (AO ?_))))
   refine pM (.int _ _) (pg ?_)
   cases hk; exact ⟨_, rfl, _, _, hO, sh⟩
  refine D5 (ge (ge (be (bn (gn (have hk := lx hx2 hk; Bs (AO ?_)))))))
  refine pM (.int _ _) (pg ?_)
  cases hk; exact ⟨_, rfl, _, _, hO, sh⟩
 refine D5 (ge (ge (be (gn (have hk := lx hx1 hk; sr (pA (.bool _) (pg (Au ?_))))))))
 cases hk; exact AQ hO
def KL (aP0 : AT) (aW1 : CA) (x13 : Int) (c14 : Af) : Int → Option (Int ⊕ (Int ⊕ Bool)) := fun s =>
 (bif decide (s < (aW1.A7.length : Int)) then ((AH aW1.A7 s).bind fun c17 => (bif (c14.Switch == c17.Switch) then (((some false).map Sum.inr).map Sum.inr) else some (.inl (BE (s + 1))))) else (((AH aP0.A5 c14.Switch).bind fun c19 => ((ZF ([c19] : List Int) aW1.A0).bind fun v20 => (bif !v20 then ((some false).map Sum.inr) else some (.inl (BE (x13 + 1)))))).map Sum.inr))
def Lj (aP0 : AT) (aW1 : CA) : Int → Option (Int ⊕ Bool) := fun s =>
 (bif decide (s < (aW1.AJ.length : Int)) then ((AH aW1.AJ s).bind fun c14 => (AG (KL aP0 aW1 s c14) ((0:Int)))) else (((ZF aW1.Bl aW1.A0).bind fun v21 => some (!v21)).map Sum.inr))
def Yu (aP0 : AT) (aW1 : CA) : Option Bool :=
 ((bif ((aW1.A0.length : Int) == 0) then some true else ((V0 aW1.A0 aP0.A0).bind fun v4 => some (!v4))).bind fun t3 => ((bif t3 then some true else ((V0 aW1.Bl aP0.A0).bind fun v6 => some (!v6))).bind fun t5 => ((bif t5 then some true else ((V0 aW1.Ci aP0.A0).bind fun v8 => some (!v8))).bind fun t7 => ((bif t7 then some true else ((Xa aP0 aW1.AJ).bind fun v10 => some (!v10))).bind fun t9 => ((bif t9 then some true else ((Xa aP0 aW1.A7).bind fun v12 => some (!v12))).bind fun t11 => (bif t11 then some false else (AG (Lj aP0 aW1) ((0:Int)))))))))
theorem Yv (hk : Yu aP0 aW1 = some r) (hlk : 0 < lk.length := by simp) : Am ai hh 120 [.agg (AY l1 0 l2 m3 l4 m5 aP0), .agg (DG l6 0 l7 0 l8 0 l9 0 l10 0 aW1)] H lk = some (.bool r, H) := by
 refine AF Tryz.func120 rfl Tryz.ntmps120 Tryz.results120 rfl rfl fun hO => ?_
 unfold Yu at hk
 refine sr (BR (cs := [_, _, _, _, _]) hO C0 (fun b1 G hO => ?_))
 refine BR (cs := [_, _, _, _, _]) hO Ay (fun b2 G hO => ?_)
 refine pA (.bool _) (pg (AV (sr ?_)))
 refine Ad BS hO 0 (.lit _ _ _) BN ?_
 refine Ae DA ?_
 refine AO ?_
 refine pM (.bool _) (bk hk fun t3 ht hk => ?_)
 refine AP (l1 := [_, _, _, _, _, _, _]) [14, 15, 16, 17, 18, 19, 20] 20 (.bool t3) ?_ ?_
 ·refine bc (b := ((aW1.A0.length : Int) == 0)) ?_ ?_ <;> intro hg
  ·replace hk := ct hg ht
   repeat refine Bg hg ?_
   refine Cm hg (.bool _) ?_
   cases hk; exact pE ek
  replace hk := cf hg ht
  refine AA hg (pF BS (AA hg ?_))
  refine CT hO 0 (.lit _ _ _) BN (AA hg ?_)
  refine pF ES (AA hg ?_)
  refine CT hO 1 (.int _ _) B3 (AA hg (bk hk fun v4 hv4 hk => ?_))
  refine AM (fun _ => Oq hv4) (AA hg ?_)
  refine pU ?_
  refine Cl hg (.bool _) ?_
  cases hk; exact pE ek
 intro J
 refine pM (.bool _) (bk hk fun t5 ht hk => ?_)
 refine AP (l1 := [_, _, _, _, _, _, _]) [22, 23, 24, 25, 26, 27, 28] 28 (.bool t5) ?_ ?_
 ·refine bc (b := t3) ?_ ?_ <;> intro hg
  ·replace hk := ct hg ht
   repeat refine Bg hg ?_
   refine Cm hg (.bool _) ?_
   cases hk; exact pE ek
  replace hk := cf hg ht
  refine AA hg (pF E6 (AA hg ?_))
  refine CT hO 0 (.lit _ _ _) BN (AA hg ?_)
  refine pF ES (AA hg ?_)
  refine CT hO 1 (.int _ _) B3 (AA hg (bk hk fun v6 hv6 hk => ?_))
  refine AM (fun _ => Oq hv6) (AA hg ?_)
  refine pU ?_
  refine Cl hg (.bool _) ?_
  cases hk; exact pE ek
 intro J
 refine pM (.bool _) (bk hk fun t7 ht hk => ?_)
 refine AP (l1 := [_, _, _, _, _, _, _]) [30, 31, 32, 33, 34, 35, 36] 36 (.bool t7) ?_ ?_
 ·refine bc (b := t5) ?_ ?_ <;> intro hg
  ·replace hk := ct hg ht
   repeat refine Bg hg ?_
   refine Cm hg (.bool _) ?_
   cases hk; exact pE ek
  replace hk := cf hg ht
  refine AA hg (pF IA (AA hg ?_))
  refine CT hO 0 (.lit _ _ _) BN (AA hg ?_)
  refine pF ES (AA hg ?_)
  refine CT hO 1 (.int _ _) B3 (AA hg (bk hk fun v8 hv8 hk => ?_))
  refine AM (fun _ => Oq hv8) (AA hg ?_)
  refine pU ?_
  refine Cl hg (.bool _) ?_
  cases hk; exact pE ek
 intro J
 refine pM (.bool _) (bk hk fun t9 ht hk => ?_)
 refine AP (l1 := [_, _, _, _, _, _]) [38, 39, 40, 41, 42, 43] 43 (.bool t9) ?_ ?_
 ·refine bc (b := t7) ?_ ?_ <;> intro hg
  ·replace hk := ct hg ht
   repeat refine Bg hg ?_
   refine Cm hg (.bool _) ?_
   cases hk; exact pE ek
  replace hk := cf hg ht
  refine AA hg (D9 hO 1 [_, _, _, _, _] EP C0 (AA hg ?_))
  refine pF ER (AA hg ?_)
  refine CT hO 0 (.lit _ _ _) Db (AA hg (bk hk fun v10 hv10 hk => ?_))
  refine AM (fun _ => Ti hv10) (AA hg ?_)
  refine pU ?_
  refine Cl hg (.bool _) ?_
  cases hk; exact pE ek
 intro J
 refine pM (.bool _) (bk hk fun t11 ht hk => ?_)
 refine AP (l1 := [_, _, _, _, _, _]) [45, 46, 47, 48, 49, 50] 50 (.bool t11) ?_ ?_
 ·refine bc (b := t9) ?_ ?_ <;> intro hg
  ·replace hk := ct hg ht
   repeat refine Bg hg ?_
   refine Cm hg (.bool _) ?_
   cases hk; exact pE ek
  replace hk := cf hg ht
  refine AA hg (D9 hO 1 [_, _, _, _, _] EP C0 (AA hg ?_))
  refine pF Ed (AA hg ?_)
  refine CT hO 0 (.lit _ _ _) Db (AA hg (bk hk fun v12 hv12 hk => ?_))
  refine AM (fun _ => Ti hv12) (AA hg ?_)
  refine pU ?_
  refine Cl hg (.bool _) ?_
  cases hk; exact pE ek
 intro J
 refine pg (Ak hk ?_ ?_) <;> intro hk
 ·refine sr (pA (.bool _) (pg (Au (gr ?_))))
  cases hk; exact AQ hO
 refine Ao (gn (AV (sr (Ad ER hO 0 (.lit _ _ _) Db ?_))))
 refine Ae FF ?_
 refine pM (.int _ _) (pg (BO ?_))
 refine A9 (F := Lj aP0 aW1) (fun s S' => ∃ J G, A4 H G [.AW b2 (.cells 5 (DG l6 0 l7 0 l8 0 l9 0 l10 0 aW1)), .AW b1 (.cells 5 (AY l1 0 l2 m3 l4 m5 aP0))] ∧ S' = ⟨CM [(2, .ptr b1 0),(3, .ptr b2 0),(52, AK l7 0 aW1.AJ),(53, iv (aW1.AJ.length : Int)),(54, iv s)] J, G⟩) hk ⟨_, _, hO, sh⟩ ?_
 rintro x13 _ y1 ⟨J, G, hO, rfl⟩ hk hx1
 refine sr (AO (pg (AV (Ak hk ?_ ?_)))) <;> intro hk
 ·refine Ao (gn (AV (BO (sr (bk hk fun c14 hc14 hk => pX hc14 Dy BA ?_)))))
  refine Bq (.agg [_, _]) (GC (lm := 0) (off := 0) hc14 G9 BA) (C9 hO BA Fo (fun b15 G hO => ?_))
  refine Cg (xs := [_, _]) hO 0 BA rfl (fun G hO => pg (AV (sr ?_)))
  refine Ad Ed hO 1 (.lit _ _ _) Db ?_
  refine Ae FF ?_
  refine pM (.int _ _) (pg (BO ?_))
  refine A9 (F := KL aP0 aW1 x13 c14) (fun s S' => ∃ J G, A4 H G [.AW b15 (.cells 2 [iv c14.Switch, iv c14.CK]), .AW b2 (.cells 5 (DG l6 0 l7 0 l8 0 l9 0 l10 0 aW1)), .AW b1 (.cells 5 (AY l1 0 l2 m3 l4 m5 aP0))] ∧ S' = ⟨CM [(2, .ptr b1 0),(3, .ptr b2 0),(6, .ptr b15 0),(52, AK l7 0 aW1.AJ),(53, iv (aW1.AJ.length : Int)),(54, iv x13),(59, AK l8 0 aW1.A7),(60, iv (aW1.A7.length : Int)),(61, iv s)] J, G⟩) hk ⟨_, _, hO, sh⟩ ?_
  rintro x16 _ y2 ⟨J, G, hO, rfl⟩ hk hx2
  refine sr (AO (pg (AV (Ak hk ?_ ?_)))) <;> intro hk
  ·refine Ao (gn (AV (BO (sr (bk hk fun c17 hc17 hk => pX hc17 Dy BA ?_)))))
   refine Bq (.agg [_, _]) (GC (lm := 0) (off := 0) hc17 G9 BA) (C9 hO BA Fo (fun b18 G hO => ?_))
   refine Cg (xs := [_, _]) hO 0 BA rfl (fun G hO => pg (sr ?_))
   refine Ad CU hO 1 (.int _ _) B3 ?_
   refine Ad CU hO 0 (.int _ _) B3 ?_
   refine AO (pg (Ak hk ?_ ?_)) <;> intro hk
   ·refine sr (pA (.bool _) (pg (Au (br (gr (gr (br (gr (br (gr (gr (br (gr (have hk := lx hx2 hk; have hk := lx hx1 hk; ?_))))))))))))))
    cases hk; exact AQ hO
   refine Ao (bn (gn (Bs (AO ?_))))
   refine pM (.int _ _) (pg ?_)
   cases hk; exact ⟨_, rfl, _, _, (pk hO [1, 2, 3]), sh⟩
  refine D5 (ge (ge (be (gn (have hk := lx hx2 hk; AV (HY [1,3,5,7,9,11,13,15,17,18,20] [_,_,_,_,_,_,_,_,_,_,_] ?_))))))
  refine Ad D4 hO 2 (.lit _ _ _) BN ?_
  refine Ad CU hO 0 (.int _ _) B3 (bk hk fun c19 hc19 hk => ?_)
  refine pX hc19 CG DB ?_
  refine Bq (.int _ _) (Cu (lm := 0) (off := 0) hc19 B3) ?_
  refine Vi (ps := [(0, (.int _ _))]) ([c19] : List Int) CG DB Nv (Dh (Di _ _) (EJ)) ?_
  refine Ad BS hO 1 (.lit _ _ _) BN (bk hk fun v20 hv20 hk => ?_)
  refine AM (vs := [(.tl 1 (A8 0 ([c19] : List Int))), (.lit _ _ _)]) (caps := []) (fun _ => J0 hv20) ?_ (h3 := (B9 (ZY ([c19] : List Int) 6) (B9 rfl EB)))
  refine pU (pg (Ak hk ?_ ?_)) <;> intro hk
  ·refine sr (pA (.bool _) (pg (Au (br (gr (gr (br (gr (have hk := lx hx1 hk; ?_)))))))))
   cases hk; exact AQ hO
  refine Ao (bn (gn (Bs (AO ?_))))
  refine pM (.int _ _) (pg ?_)
  cases hk; exact ⟨_, rfl, _, _, (pk hO [1, 2]), sh⟩
 refine D5 (ge (ge (be (gn (have hk := lx hx1 hk; sr (Ad E6 hO 0 (.lit _ _ _) BN ?_))))))
 refine Ad BS hO 0 (.lit _ _ _) BN (bk hk fun v21 hv21 hk => ?_)
 refine AM (fun _ => J0 hv21) ?_
 refine pU ?_
 refine pA (.bool _) (pg (Au ?_))
 cases hk; exact AQ hO
def O5 (aP0 : AT) (x15 : Int) (c16 : List Bool) : Int → Option (Int ⊕ (Int ⊕ Bt)) := fun s =>
 (bif decide (s < (c16.length : Int)) then ((AH c16 s).bind fun c18 => ((AH aP0.Bk s).bind fun c19 => ((AH c19 x15).bind fun c20 => ((bif !(c18 == c20) then some true else ((bif ((x15 != s) && !c18) then ((AH aP0.A3 x15).bind fun c23 => ((AH aP0.A3 s).bind fun c24 => ((ZF c23.A0 c24.A0).bind fun v25 => some v25))) else some false).bind fun t22 => some t22)).bind fun t21 => (bif t21 then (((some ({ Code := (5:Int), At := x15 } : Bt)).map Sum.inr).map Sum.inr) else some (.inl (BE (s + 1)))))))) else ((some (.inl (BE (x15 + 1)))).map Sum.inr))
def Hq (aP0 : AT) : Int → Option (Int ⊕ Bt) := fun s =>
 (bif decide (s < (aP0.Bk.length : Int)) then ((AH aP0.Bk s).bind fun c16 => (AG (O5 aP0 s c16) ((0:Int)))) else ((some ({ Code := 0, At := 0 } : Bt)).map Sum.inr))
def KI (aP0 : AT) : Int → Option (Int ⊕ Bt) := fun s =>
 (bif decide (s < (aP0.Bk.length : Int)) then ((AH aP0.Bk s).bind fun c14 => (bif ((c14.length : Int) != (aP0.A3.length : Int)) then ((some ({ Code := (4:Int), At := s } : Bt)).map Sum.inr) else some (.inl (BE (s + 1))))) else ((AG (Hq aP0) ((0:Int))).map Sum.inr))
def KH (aP0 : AT) : Int → Option (Int ⊕ Bt) := fun s =>
 (bif decide (s < (aP0.A3.length : Int)) then ((AH aP0.A3 s).bind fun c10 => ((Yu aP0 c10).bind fun v12 => (bif !v12 then ((some ({ Code := (3:Int), At := s } : Bt)).map Sum.inr) else some (.inl (BE (s + 1)))))) else ((bif ((aP0.Bk.length : Int) != (aP0.A3.length : Int)) then some ({ Code := (4:Int), At := 0 } : Bt) else (AG (KI aP0) ((0:Int)))).map Sum.inr))
def Iu (aP0 : AT) : Int → Option (Int ⊕ Bt) := fun s =>
 (bif decide (s < (aP0.A5.length : Int)) then ((AH aP0.A5 s).bind fun c7 => ((Qc c7 (0:Int) (BE (aP0.A0 - 1))).bind fun v8 => (bif !v8 then ((some ({ Code := (2:Int), At := s } : Bt)).map Sum.inr) else some (.inl (BE (s + 1)))))) else ((AG (KH aP0) ((0:Int))).map Sum.inr))
def Tb (aP0 : AT) : Option Bt :=
 ((Qc aP0.A0 (1:Int) (60:Int)).bind fun v3 => ((bif ((!v3 || decide ((aP0.A5.length : Int) > 40)) || decide ((aP0.A3.length : Int) > 100)) then some true else ((Qc aP0.DX (1:Int) (300:Int)).bind fun v5 => some (!v5))).bind fun t4 => (bif t4 then some ({ Code := (1:Int), At := 0 } : Bt) else (AG (Iu aP0) ((0:Int))))))
theorem Yi (hk : Tb aP0 = some r) (hlk : 0 < lk.length := by simp) : Am ai hh 104 [.agg (AY l1 0 l2 m3 l4 m5 aP0)] H lk = some (.agg [iv r.Code, iv r.At], H) := by
 refine AF Tryz.func104 rfl Tryz.ntmps104 Tryz.results104 rfl rfl fun hO => ?_
 unfold Tb at hk
 refine sr (BR (cs := [_, _, _, _, _]) hO C0 (fun b1 G hO => C9 hO DN GG (fun b2 G hO => pg (AV (sr ?_)))))
 refine Ad ES hO 1 (.int _ _) B3 (bk hk fun v3 hv3 hk => ?_)
 refine AM (fun _ => Dj hv3) ?_
 refine pU ?_
 refine pM (.bool _) ?_
 refine AP (l1 := [_, _, _, _, _]) [18, 19, 20, 21, 22] 22 (.bool (!v3 || decide ((aP0.A5.length : Int) > 40))) ?_ ?_
 ·refine bc (b := !v3) ?_ ?_ <;> intro hg
  ·repeat refine Bg hg ?_
   refine Cm hg (.bool _) ?_
   exact pE (ek (by rw [hg]; rfl))
  refine AA hg (pF D4 (AA hg ?_))
  refine CT hO 1 (.lit _ _ _) BN (AA hg ?_)
  refine Ae DA (AA hg ?_)
  refine AO ?_
  refine Cl hg (.bool _) ?_
  exact pE (ek (by rw [hg]; rfl))
 intro J
 refine pM (.bool _) ?_
 refine AP (l1 := [_, _, _, _, _]) [24, 25, 26, 27, 28] 28 (.bool ((!v3 || decide ((aP0.A5.length : Int) > 40)) || decide ((aP0.A3.length : Int) > 100))) ?_ ?_
 ·refine bc (b := (!v3 || decide ((aP0.A5.length : Int) > 40))) ?_ ?_ <;> intro hg
  ·repeat refine Bg hg ?_
   refine Cm hg (.bool _) ?_
   exact pE (ek (by rw [hg]; rfl))
  refine AA hg (pF BY (AA hg ?_))
  refine CT hO 1 (.lit _ _ _) Df (AA hg ?_)
  refine Ae Im (AA hg ?_)
  refine AO ?_
  refine Cl hg (.bool _) ?_
  exact pE (ek (by rw [hg]; rfl))
 intro J
 refine pM (.bool _) (bk hk fun t4 ht hk => ?_)
 refine AP (l1 := [_, _, _, _, _]) [30, 31, 32, 33, 34] 34 (.bool t4) ?_ ?_
 ·refine bc (b := ((!v3 || decide ((aP0.A5.length : Int) > 40)) || decide ((aP0.A3.length : Int) > 100))) ?_ ?_ <;> intro hg
  ·replace hk := ct hg ht
   repeat refine Bg hg ?_
   refine Cm hg (.bool _) ?_
   cases hk; exact pE ek
  replace hk := cf hg ht
  refine AA hg (pF JL (AA hg ?_))
  refine CT hO 1 (.int _ _) B3 (AA hg (bk hk fun v5 hv5 hk => ?_))
  refine AM (fun _ => Dj hv5) (AA hg ?_)
  refine pU ?_
  refine Cl hg (.bool _) ?_
  cases hk; exact pE ek
 intro J
 refine pg (Ak hk ?_ ?_) <;> intro hk
 ·refine sr (NB [_, _] GG HW ?_)
  refine Cg (xs := [_, _]) hO 0 DN rfl (fun G hO => pg (Au (gr ?_)))
  replace hk := av hk; subst hk; exact He hO (EN (n := 2) (DY (C8 _ _) (DY (C8 _ _) (IG)))) (FB hO 0 [_, _] I9 DN DQ)
 refine Ao (gn (AV (sr (Ad D4 hO 1 (.lit _ _ _) BN ?_))))
 refine Ae DA ?_
 refine pM (.int _ _) (pg (BO ?_))
 refine A9 (F := Iu aP0) (fun s S' => ∃ J G, A4 H G [.AW b2 (.cells 2 [iv 0, iv 0]), .AW b1 (.cells 5 (AY l1 0 l2 m3 l4 m5 aP0))] ∧ S' = ⟨CM [(1, .ptr b1 0),(2, .ptr b2 0),(37, AK l1 0 aP0.A5),(38, iv (aP0.A5.length : Int)),(39, iv s)] J, G⟩) hk ⟨_, _, hO, sh⟩ ?_
 rintro x6 _ y1 ⟨J, G, hO, rfl⟩ hk hx1
 refine sr (AO (pg (AV (Ak hk ?_ ?_)))) <;> intro hk
 ·refine Ao (gn (AV (BO (sr (pM (.int _ _) (bk hk fun c7 hc7 hk => ?_))))))
  refine pX hc7 CG DB ?_
  refine Bq (.int _ _) (Cu (lm := 0) (off := 0) hc7 B3) ?_
  refine pA (.int _ _) ?_
  refine pA (.int _ _) (pg (sr ?_))
  refine pM (.int _ _) ?_
  refine Ad ES hO 1 (.int _ _) B3 ?_
  refine AO (bk hk fun v8 hv8 hk => ?_)
  refine AM (fun _ => Dj hv8) ?_
  refine pU (pg (Ak hk ?_ ?_)) <;> intro hk
  ·refine sr (pM (.int _ _) ?_)
   refine NB [_, _] GG HW ?_
   refine Cg (xs := [_, _]) hO 0 DN rfl (fun G hO => pg (Au (br (gr (gr (br (gr (have hk := lx hx1 hk; ?_))))))))
   replace hk := av hk; subst hk; exact He hO (EN (n := 2) (DY (C8 _ _) (DY (C8 _ _) (IG)))) (FB hO 0 [_, _] I9 DN DQ)
  refine Ao (bn (gn (Bs (AO ?_))))
  refine pM (.int _ _) (pg ?_)
  cases hk; exact ⟨_, rfl, _, _, hO, sh⟩
 refine D5 (ge (ge (be (gn (have hk := lx hx1 hk; AV (sr (Ad BY hO 1 (.lit _ _ _) Df ?_)))))))
 refine Ae Im ?_
 refine pM (.int _ _) (pg (BO ?_))
 refine A9 (F := KH aP0) (fun s S' => ∃ J G, A4 H G [.AW b2 (.cells 2 [iv 0, iv 0]), .AW b1 (.cells 5 (AY l1 0 l2 m3 l4 m5 aP0))] ∧ S' = ⟨CM [(1, .ptr b1 0),(2, .ptr b2 0),(54, AK l2 m3 aP0.A3),(55, iv (aP0.A3.length : Int)),(56, iv s)] J, G⟩) hk ⟨_, _, hO, sh⟩ ?_
 rintro x9 _ y1 ⟨J, G, hO, rfl⟩ hk hx1
 refine sr (AO (pg (AV (Ak hk ?_ ?_)))) <;> intro hk
 ·refine Ao (gn (AV (BO (sr (pM (.int _ _) (bk hk fun c10 hc10 hk => ?_))))))
  refine pX hc10 EY Ay ?_
  refine Bq (.agg [_, _, _, _, _]) (GC (lm := m3) (off := 0) hc10 Ec Ay) (C9 hO Ay Il (fun b11 G hO => ?_))
  refine pA (.int _ _) ?_
  refine Cg (xs := [_, _, _, _, _]) hO 0 Ay rfl (fun G hO => pg (sr ?_))
  refine D9 hO 2 [_, _, _, _, _] EP C0 ?_
  refine D9 hO 0 [_, _, _, _, _] Ec Ay (bk hk fun v12 hv12 hk => ?_)
  refine AM (fun _ => Yv hv12) ?_
  refine pU (pg (Ak hk ?_ ?_)) <;> intro hk
  ·refine sr (pM (.int _ _) ?_)
   refine NB [_, _] GG HW ?_
   refine Cg (xs := [_, _]) hO 1 DN rfl (fun G hO => pg (Au (br (gr (gr (br (gr (have hk := lx hx1 hk; ?_))))))))
   replace hk := av hk; subst hk; exact He hO (EN (n := 2) (DY (C8 _ _) (DY (C8 _ _) (IG)))) (FB hO 1 [_, _] I9 DN DQ)
  refine Ao (bn (gn (Bs (AO ?_))))
  refine pM (.int _ _) (pg ?_)
  cases hk; exact ⟨_, rfl, _, _, (pk hO [1, 2]), sh⟩
 refine D5 (ge (ge (be (gn (have hk := lx hx1 hk; AV (sr (Ad Er hO 1 (.lit _ _ _) JX ?_)))))))
 refine Ae NN ?_
 refine Ad BY hO 1 (.lit _ _ _) Df ?_
 refine Ae Im ?_
 refine AO (pg (Ak hk ?_ ?_)) <;> intro hk
 ·refine sr (NB [_, _] GG HW ?_)
  refine Cg (xs := [_, _]) hO 0 DN rfl (fun G hO => pg (Au (gr ?_)))
  replace hk := av hk; subst hk; exact He hO (EN (n := 2) (DY (C8 _ _) (DY (C8 _ _) (IG)))) (FB hO 0 [_, _] I9 DN DQ)
 refine Ao (gn (AV (sr (Ad Er hO 1 (.lit _ _ _) JX ?_))))
 refine Ae NN ?_
 refine pM (.int _ _) (pg (BO ?_))
 refine A9 (F := KI aP0) (fun s S' => ∃ J G, A4 H G [.AW b2 (.cells 2 [iv 0, iv 0]), .AW b1 (.cells 5 (AY l1 0 l2 m3 l4 m5 aP0))] ∧ S' = ⟨CM [(1, .ptr b1 0),(2, .ptr b2 0),(77, AK l4 m5 aP0.Bk),(78, iv (aP0.Bk.length : Int)),(79, iv s)] J, G⟩) hk ⟨_, _, hO, sh⟩ ?_
 rintro x13 _ y1 ⟨J, G, hO, rfl⟩ hk hx1
 refine sr (AO (pg (AV (Ak hk ?_ ?_)))) <;> intro hk
 ·refine Ao (gn (AV (BO (sr (pM (.int _ _) (bk hk fun c14 hc14 hk => ?_))))))
  refine pX hc14 JZ Gs ?_
  refine Bq (.lit _ _ _) (Cu (lm := m5) (off := 0) hc14 C5) ?_
  refine pA (.int _ _) ?_
  refine pA (.lit _ _ _) (pg (sr ?_))
  refine pM (.lit _ _ _) ?_
  refine Ae Hj ?_
  refine Ad BY hO 1 (.lit _ _ _) Df ?_
  refine Ae Im ?_
  refine AO (pg (Ak hk ?_ ?_)) <;> intro hk
  ·refine sr (pM (.int _ _) ?_)
   refine NB [_, _] GG HW ?_
   refine Cg (xs := [_, _]) hO 0 DN rfl (fun G hO => pg (Au (br (gr (gr (br (gr (have hk := lx hx1 hk; ?_))))))))
   replace hk := av hk; subst hk; exact He hO (EN (n := 2) (DY (C8 _ _) (DY (C8 _ _) (IG)))) (FB hO 0 [_, _] I9 DN DQ)
  refine Ao (bn (gn (Bs (AO ?_))))
  refine pM (.int _ _) (pg ?_)
  cases hk; exact ⟨_, rfl, _, _, hO, sh⟩
 refine D5 (ge (ge (be (gn (have hk := lx hx1 hk; AV (sr (Ad Er hO 1 (.lit _ _ _) JX ?_)))))))
 refine Ae NN ?_
 refine pM (.int _ _) (pg (BO ?_))
 refine A9 (F := Hq aP0) (fun s S' => ∃ J G, A4 H G [.AW b2 (.cells 2 [iv 0, iv 0]), .AW b1 (.cells 5 (AY l1 0 l2 m3 l4 m5 aP0))] ∧ S' = ⟨CM [(1, .ptr b1 0),(2, .ptr b2 0),(94, AK l4 m5 aP0.Bk),(95, iv (aP0.Bk.length : Int)),(96, iv s)] J, G⟩) hk ⟨_, _, hO, sh⟩ ?_
 rintro x15 _ y1 ⟨J, G, hO, rfl⟩ hk hx1
 refine sr (AO (pg (AV (Ak hk ?_ ?_)))) <;> intro hk
 ·refine Ao (gn (AV (BO (sr (pM (.int _ _) (bk hk fun c16 hc16 hk => ?_))))))
  refine pX hc16 JZ Gs ?_
  refine Bq (.lit _ _ _) (Cu (lm := m5) (off := 0) hc16 C5) ?_
  refine pA (.int _ _) ?_
  refine pA (.lit _ _ _) (pg (sr ?_))
  refine pM (.lit _ _ _) ?_
  refine Ae Hj ?_
  refine pM (.int _ _) (pg (BO ?_))
  refine A9 (F := O5 aP0 x15 c16) (fun s S' => ∃ J G, A4 H G [.AW b2 (.cells 2 [iv 0, iv 0]), .AW b1 (.cells 5 (AY l1 0 l2 m3 l4 m5 aP0))] ∧ S' = ⟨CM [(1, .ptr b1 0),(2, .ptr b2 0),(9, iv x15),(94, AK l4 m5 aP0.Bk),(95, iv (aP0.Bk.length : Int)),(96, iv x15),(101, AK m5 0 c16),(102, iv (c16.length : Int)),(103, iv s)] J, G⟩) hk ⟨_, _, hO, sh⟩ ?_
  rintro x17 _ y2 ⟨J, G, hO, rfl⟩ hk hx2
  refine sr (AO (pg (AV (Ak hk ?_ ?_)))) <;> intro hk
  ·refine Ao (gn (AV (BO (sr (pM (.int _ _) (bk hk fun c18 hc18 hk => ?_))))))
   refine pX hc18 Cd Eu ?_
   refine Bq (.bool _) (Cu (lm := 0) (off := 0) hc18 Fu) ?_
   refine pA (.int _ _) ?_
   refine pA (.bool _) (pg (AV ?_))
   refine HY [1,2,5,7,8,11,13,14,17,18,20,22,24,26,28,30,32,34,36,39,41,43,45,47,49,51,53,55,57,59,61,62,64,66] [_,_,_,_,_,_,_,_,_,_,_,_,_,_,_,_,_,_,_,_,_,_,_,_,_,_,_,_,_,_,_,_,_,_] ?_
   refine pM (.bool _) ?_
   refine Ad Er hO 1 (.lit _ _ _) JX ?_
   refine pM (.int _ _) (bk hk fun c19 hc19 hk => ?_)
   refine pX hc19 JZ Gs ?_
   refine Bq (.lit _ _ _) (Cu (lm := m5) (off := 0) hc19 C5) ?_
   refine pM (.int _ _) (bk hk fun c20 hc20 hk => ?_)
   refine pX hc20 Cd Eu ?_
   refine Bq (.bool _) (Cu (lm := 0) (off := 0) hc20 Fu) ?_
   refine Zu Tryz.underlying4 ?_
   refine pM (.bool _) (bk hk fun t21 ht hk => ?_)
   refine AP (l1 := [_, _, _, _, _, _, _, _, _, _, _, _, _, _, _, _, _, _, _, _, _, _, _]) [119, 120, 121, 122, 123, 124, 125, 126, 127, 128, 129, 130, 131, 132, 133, 134, 135, 136, 137, 138, 139, 140, 141] 141 (.bool t21) ?_ ?_
   ·refine bc (b := !(c18 == c20)) ?_ ?_ <;> intro hg
    ·replace hk := ct hg ht
     repeat refine Bg hg ?_
     refine Cp (Cp (Bg hg (Bg hg (Cp (Cp (Cp (Cp (Cp (Cp (Cp (Cp (Cp (Cp (Cp (Cp (Cp (Bg hg (Cm hg (.bool _) ?_))))))))))))))))))
     cases hk; exact pE ek
    replace hk := cf hg ht
    refine AA hg (pM (.int _ _) (AA hg ?_))
    refine pM (.int _ _) (AA hg ?_)
    refine AO (AA hg ?_)
    refine pM (.bool _) ?_
    refine AP (l1 := [_, _, _]) [123, 124, 125] 125 (.bool ((x15 != x17) && !c18)) ?_ ?_
    ·refine bc (b := (x15 != x17)) (fun hg2 => ?_) (fun hg2 => ?_)
     ·refine AA hg2 (pM (.bool _) (AA hg2 ?_))
      refine pU (AA hg ?_)
      refine Cm hg2 (.bool _) ?_
      exact pE (ek (by rw [hg2]; rfl))
     refine Bg hg2 (Bg hg2 (AA hg (Cl hg2 (.bool _) ?_)))
     exact pE (ek (by rw [hg2]; rfl))
    intro J
    refine AA hg (pM (.bool _) (bk hk fun t22 ht hk => ?_))
    refine AP (l1 := [_, _, _, _, _, _, _, _, _, _, _, _, _, _]) [127, 128, 129, 130, 131, 132, 133, 134, 135, 136, 137, 138, 139, 140] 140 (.bool t22) ?_ ?_
    ·refine bc (b := ((x15 != x17) && !c18)) (fun hg2 => ?_) (fun hg2 => ?_)
     ·replace hk := ct hg2 ht
      refine AA hg2 (pF BY (AA hg2 ?_))
      refine CT hO 1 (.lit _ _ _) Df (AA hg2 ?_)
      refine pM (.int _ _) (AA hg2 (bk hk fun c23 hc23 hk => ?_))
      refine pX hc23 EY Ay (AA hg2 ?_)
      refine pF BS (AA hg2 ?_)
      refine Bq (.lit _ _ _) (Cu (lm := m3) (off := 0) hc23 BN) (AA hg2 ?_)
      refine pF BY (AA hg2 ?_)
      refine CT hO 1 (.lit _ _ _) Df (AA hg2 ?_)
      refine pM (.int _ _) (AA hg2 (bk hk fun c24 hc24 hk => ?_))
      refine pX hc24 EY Ay (AA hg2 ?_)
      refine pF BS (AA hg2 ?_)
      refine Bq (.lit _ _ _) (Cu (lm := m3) (off := 0) hc24 BN) (AA hg2 (bk hk fun v25 hv25 hk => ?_))
      refine AM (fun _ => J0 hv25) (AA hg ?_)
      refine Cm hg2 (.bool _) ?_
      cases hk; exact pE ek
     replace hk := cf hg2 ht
     repeat refine Bg hg2 ?_
     refine AA hg (Cl hg2 (.bool _) ?_)
     cases hk; exact pE ek
    intro J
    refine Cl hg (.bool _) ?_
    cases hk; exact pE ek
   intro J
   refine pg (Ak hk ?_ ?_) <;> intro hk
   ·refine sr (pM (.int _ _) ?_)
    refine NB [_, _] GG HW ?_
    refine Cg (xs := [_, _]) hO 0 DN rfl (fun G hO => pg (Au (br (gr (gr (br (br (gr (gr (br (gr (have hk := lx hx2 hk; have hk := lx hx1 hk; ?_))))))))))))
    replace hk := av hk; subst hk; exact He hO (EN (n := 2) (DY (C8 _ _) (DY (C8 _ _) (IG)))) (FB hO 0 [_, _] I9 DN DQ)
   refine Ao (bn (gn (Bs (AO ?_))))
   refine pM (.int _ _) (pg ?_)
   cases hk; exact ⟨_, rfl, _, _, hO, sh⟩
  refine D5 (ge (ge (be (bn (gn (have hk := lx hx2 hk; Bs (AO ?_)))))))
  refine pM (.int _ _) (pg ?_)
  cases hk; exact ⟨_, rfl, _, _, hO, sh⟩
 refine D5 (ge (ge (be (gn (have hk := lx hx1 hk; sr (NB [_, _] GG HW ?_))))))
 refine Cg (xs := [_, _]) hO 0 DN rfl (fun G hO => pg (Au ?_))
 replace hk := av hk; subst hk; exact He hO (EN (n := 2) (DY (C8 _ _) (DY (C8 _ _) (IG)))) (FB hO 0 [_, _] I9 DN DQ)
def nF (aP0 : AT) : Option Bool :=
 ((Tb aP0).bind fun v2 => some (v2.Code == 0))
theorem dT (hk : nF aP0 = some r) (hlk : 0 < lk.length := by simp) : Am ai hh 72 [.agg (AY l1 0 l2 m3 l4 m5 aP0)] H lk = some (.bool r, H) := by
 refine AF Tryz.func72 rfl Tryz.ntmps72 Tryz.results72 rfl rfl fun hO => ?_
 unfold nF at hk
 refine sr (BR (cs := [_, _, _, _, _]) hO C0 (fun b1 G hO => ?_))
 refine pA (.bool _) (pg (sr ?_))
 refine D9 hO 0 [_, _, _, _, _] EP C0 (bk hk fun v2 hv2 hk => ?_)
 refine AM (fun _ => Yi hv2) (C9 hO DN GG (fun b3 G hO => ?_))
 refine Cg (xs := [_, _]) hO 0 DN rfl (fun G hO => pg (sr ?_))
 refine Ad fL hO 0 (.int _ _) B3 ?_
 refine AO ?_
 refine pA (.bool _) (pg (Au ?_))
 cases hk; exact AQ hO
def PM (aP0 : AT) (c3 : AD) : Int → Option (Int ⊕ Bool) := fun s =>
 (bif decide (s < c3.Aj) then ((AH c3.Ac s).bind fun c10 => (bif !c10 then ((some false).map Sum.inr) else some (.inl (BE (s + 1))))) else ((bif (c3.State == 3) then ((bif c3.Shown then ((Qc c3.Timer (1:Int) aP0.DX).bind fun v12 => some v12) else some false).bind fun t11 => some t11) else some (((c3.Timer == 0) && ((c3.State != 0) || !c3.Shown)) && ((c3.State != 2) || c3.Shown))).map Sum.inr))
def Mo (aP0 : AT) (c3 : AD) : Option Bool :=
 (AG (PM aP0 c3) ((0:Int)))
def PN (aP0 : AT) (c3 : AD) : Int → Option (Int ⊕ Bool) := fun s =>
 (bif decide (s < (c3.Ac.length : Int)) then ((AH c3.Ac s).bind fun c14 => (bif c14 then ((some false).map Sum.inr) else some (.inl (BE (s + 1))))) else ((bif (c3.Aj != 0) then some false else (Mo aP0 c3)).map Sum.inr))
def lN (aP0 : AT) (aF1 : Frame) (aI2 : Int) : Option Bool :=
 ((AH aF1.A3 aI2).bind fun c3 => ((AH aP0.A3 aI2).bind fun c5 => ((Qc c3.State (0:Int) (4:Int)).bind fun v6 => ((bif (!v6 || ((c3.Ac.length : Int) != (c5.A0.length : Int))) then some true else ((Qc c3.Aj (0:Int) (BE ((c5.A0.length : Int) - 1))).bind fun v8 => some (!v8))).bind fun t7 => (bif t7 then some false else (bif (c3.State != 4) then (AG (PN aP0 c3) ((0:Int))) else (Mo aP0 c3)))))))
theorem dU (hk : lN aP0 aF1 aI2 = some r) (hlk : 0 < lk.length := by simp) : Am ai hh 73 [.agg (AY l1 0 l2 m3 l4 m5 aP0), .agg (Ah l6 0 l7 0 l8 m9 aF1), iv aI2] H lk = some (.bool r, H) := by
 refine AF Tryz.func73 rfl Tryz.ntmps73 Tryz.results73 rfl rfl fun hO => ?_
 unfold lN at hk
 refine sr (BR (cs := [_, _, _, _, _]) hO C0 (fun b1 G hO => ?_))
 refine BR (cs := [_, _, _, _]) hO BZ (fun b2 G hO => ?_)
 refine pA (.bool _) (pg (sr ?_))
 refine Ad BT hO 0 (.lit _ _ _) DZ ?_
 refine pM (.int _ _) (bk hk fun c3 hc3 hk => ?_)
 refine pX hc3 Da Av ?_
 refine Bq (.agg [_, _, _, _, _]) (GC (lm := m9) (off := 0) hc3 Gl Av) (C9 hO Av G8 (fun b4 G hO => ?_))
 refine Cg (xs := [_, _, _, _, _]) hO 0 Av rfl (fun G hO => pg (sr ?_))
 refine Ad BY hO 2 (.lit _ _ _) Df ?_
 refine pM (.int _ _) (bk hk fun c5 hc5 hk => ?_)
 refine pX hc5 EY Ay ?_
 refine pF BS ?_
 refine Bq (.lit _ _ _) (Cu (lm := m3) (off := 0) hc5 BN) ?_
 refine Ae DA ?_
 refine pA (.int _ _) (pg (AV (sr ?_)))
 refine Ad Az hO 0 (.int _ _) B3 (bk hk fun v6 hv6 hk => ?_)
 refine AM (fun _ => Dj hv6) ?_
 refine pU ?_
 refine pM (.bool _) ?_
 refine AP (l1 := [_, _, _, _, _, _]) [29, 30, 31, 32, 33, 34] 34 (.bool (!v6 || ((c3.Ac.length : Int) != (c5.A0.length : Int)))) ?_ ?_
 ·refine bc (b := !v6) ?_ ?_ <;> intro hg
  ·repeat refine Bg hg ?_
   refine Cm hg (.bool _) ?_
   exact pE (ek (by rw [hg]; rfl))
  refine AA hg (pF CC (AA hg ?_))
  refine CT hO 0 (.lit _ _ _) C5 (AA hg ?_)
  refine Ae Hj (AA hg ?_)
  refine pM (.int _ _) (AA hg ?_)
  refine AO ?_
  refine Cl hg (.bool _) ?_
  exact pE (ek (by rw [hg]; rfl))
 intro J
 refine pM (.bool _) (bk hk fun t7 ht hk => ?_)
 refine AP (l1 := [_, _, _, _, _, _, _]) [36, 37, 38, 39, 40, 41, 42] 42 (.bool t7) ?_ ?_
 ·refine bc (b := (!v6 || ((c3.Ac.length : Int) != (c5.A0.length : Int)))) ?_ ?_ <;> intro hg
  ·replace hk := ct hg ht
   repeat refine Bg hg ?_
   refine Cm hg (.bool _) ?_
   cases hk; exact pE ek
  replace hk := cf hg ht
  refine AA hg (pF C7 (AA hg ?_))
  refine CT hO 0 (.int _ _) B3 (AA hg ?_)
  refine pM (.int _ _) (AA hg ?_)
  refine AO (AA hg (bk hk fun v8 hv8 hk => ?_))
  refine AM (fun _ => Dj hv8) (AA hg ?_)
  refine pU ?_
  refine Cl hg (.bool _) ?_
  cases hk; exact pE ek
 intro J
 refine pg (Ak hk ?_ ?_) <;> intro hk
 ·refine sr (pA (.bool _) (pg (Au (gr ?_))))
  cases hk; exact AQ hO
 refine Ao (gn (By (fun S' => ∃  (J : Nat → V) (G : A6), Mo aP0 c3 = some r ∧ A4 H G [.AW b4 (.cells 5 [iv c3.State, iv c3.Aj, AK m9 0 c3.Ac, .bool c3.Shown, iv c3.Timer]), .AW b1 (.cells 5 (AY l1 0 l2 m3 l4 m5 aP0))] ∧ S' = ⟨CM [(3, .ptr b1 0),(7, .ptr b4 0)] J, G⟩) ?_ ?_))
 ·refine sr (Ad Az hO 0 (.int _ _) B3 ?_)
  refine AO (pg (Ak hk ?_ ?_)) <;> intro hk
  ·refine AV (sr (Ad CC hO 0 (.lit _ _ _) C5 ?_))
   refine Ae Hj ?_
   refine pM (.int _ _) (pg (BO ?_))
   refine A9 (F := PN aP0 c3) (fun s S' => ∃ J G, A4 H G [.AW b4 (.cells 5 [iv c3.State, iv c3.Aj, AK m9 0 c3.Ac, .bool c3.Shown, iv c3.Timer]), .AW b1 (.cells 5 (AY l1 0 l2 m3 l4 m5 aP0))] ∧ S' = ⟨CM [(3, .ptr b1 0),(7, .ptr b4 0),(47, AK m9 0 c3.Ac),(48, iv (c3.Ac.length : Int)),(49, iv s)] J, G⟩) hk ⟨_, _, (pk hO [0, 2]), sh⟩ ?_
   rintro x13 _ y1 ⟨J, G, hO, rfl⟩ hk hx1
   refine sr (AO (pg (AV (Ak hk ?_ ?_)))) <;> intro hk
   ·refine Ao (gn (AV (BO (sr (bk hk fun c14 hc14 hk => pX hc14 Cd Eu ?_)))))
    refine Bq (.bool _) (Cu (lm := 0) (off := 0) hc14 Fu) ?_
    refine pA (.bool _) (pg (sr ?_))
    refine pM (.bool _) (pg (Ak hk ?_ ?_)) <;> intro hk
    ·refine sr (pA (.bool _) (pg (Au (br (gr (gr (br (gr (gr (have hk := lx hx1 hk; ?_))))))))))
     cases hk; exact AQ hO
    refine Ao (bn (gn (Bs (AO ?_))))
    refine pM (.int _ _) (pg ?_)
    cases hk; exact ⟨_, rfl, _, _, hO, sh⟩
   refine D5 (ge (ge (be (gn (have hk := lx hx1 hk; sr (Ad C7 hO 0 (.int _ _) B3 ?_))))))
   refine AO (pg (Ak hk ?_ ?_)) <;> intro hk
   ·refine sr (pA (.bool _) (pg (Au (gr ?_))))
    cases hk; exact AQ hO
   exact Ao (gn (⟨_, _, hk, hO, sh⟩))
  exact Ao (gn (⟨_, _, hk, (pk hO [0, 2]), sh⟩))
 rintro _ ⟨J, G, hk, hO, rfl⟩
 refine AV (sr (pA (.int _ _) (pg (BO ?_))))
 refine A9 (F := PM aP0 c3) (fun s S' => ∃ J G, A4 H G [.AW b4 (.cells 5 [iv c3.State, iv c3.Aj, AK m9 0 c3.Ac, .bool c3.Shown, iv c3.Timer]), .AW b1 (.cells 5 (AY l1 0 l2 m3 l4 m5 aP0))] ∧ S' = ⟨CM [(3, .ptr b1 0),(7, .ptr b4 0),(11, iv s)] J, G⟩) hk ⟨_, _, hO, sh⟩ ?_
 rintro x9 _ y1 ⟨J, G, hO, rfl⟩ hk hx1
 refine AV (sr (pM (.int _ _) ?_))
 refine Ad C7 hO 0 (.int _ _) B3 ?_
 refine AO (pg (Ak hk ?_ ?_)) <;> intro hk
 ·refine Ao (gn (AV (BO (sr (Ad CC hO 0 (.lit _ _ _) C5 ?_)))))
  refine pM (.int _ _) (bk hk fun c10 hc10 hk => ?_)
  refine pX hc10 Cd Eu ?_
  refine Bq (.bool _) (Cu (lm := 0) (off := 0) hc10 Fu) ?_
  refine pU (pg (Ak hk ?_ ?_)) <;> intro hk
  ·refine sr (pA (.bool _) (pg (Au (br (gr (gr (br (gr (have hk := lx hx1 hk; ?_)))))))))
   cases hk; exact AQ hO
  refine Ao (bn (gn (Bs (pM (.int _ _) ?_))))
  refine AO ?_
  refine pA (.int _ _) (pg ?_)
  cases hk; exact ⟨_, rfl, _, _, hO, sh⟩
 refine D5 (ge (ge (be (gn (have hk := lx hx1 hk; AV (sr (Ad Az hO 0 (.int _ _) B3 ?_)))))))
 refine AO (pg (Ak hk ?_ ?_)) <;> intro hk
 ·refine sr (Ad DW hO 0 (.bool _) Fu ?_)
  refine pM (.bool _) (bk hk fun t11 ht hk => ?_)
  refine AP (l1 := [_, _, _, _, _, _]) [76, 77, 78, 79, 80, 81] 81 (.bool t11) ?_ ?_
  ·refine bc (b := c3.Shown) ?_ ?_ <;> intro hg
   ·replace hk := ct hg ht
    refine AA hg (pF Ce (AA hg ?_))
    refine CT hO 0 (.int _ _) B3 (AA hg ?_)
    refine pF JL (AA hg ?_)
    refine CT hO 1 (.int _ _) B3 (AA hg (bk hk fun v12 hv12 hk => ?_))
    refine AM (fun _ => Dj hv12) ?_
    refine Cm hg (.bool _) ?_
    cases hk; exact pE ek
   replace hk := cf hg ht
   repeat refine Bg hg ?_
   refine Cl hg (.bool _) ?_
   cases hk; exact pE ek
  intro J
  refine pA (.bool _) (pg (Au (gr ?_)))
  cases hk; exact AQ hO
 refine Ao (gn (sr (Ad Ce hO 0 (.int _ _) B3 ?_)))
 refine AO ?_
 refine pM (.bool _) ?_
 refine AP (l1 := [_, _, _, _, _, _, _, _, _]) [86, 87, 88, 89, 90, 91, 92, 93, 94] 94 (.bool ((c3.Timer == 0) && ((c3.State != 0) || !c3.Shown))) ?_ ?_
 ·refine bc (b := (c3.Timer == 0)) ?_ ?_ <;> intro hg
  ·refine AA hg (pF Az (AA hg ?_))
   refine CT hO 0 (.int _ _) B3 (AA hg ?_)
   refine AO (AA hg ?_)
   refine pM (.bool _) ?_
   refine AP (l1 := [_, _, _, _]) [90, 91, 92, 93] 93 (.bool ((c3.State != 0) || !c3.Shown)) ?_ ?_
   ·refine bc (b := (c3.State != 0)) (fun hg2 => ?_) (fun hg2 => ?_)
    ·refine Bg hg2 (Bg hg2 (Bg hg2 (AA hg (Cm hg2 (.bool _) ?_))))
     exact pE (ek (by rw [hg2]; rfl))
    refine AA hg2 (pF DW (AA hg2 ?_))
    refine CT hO 0 (.bool _) Fu (AA hg2 ?_)
    refine pU (AA hg ?_)
    refine Cl hg2 (.bool _) ?_
    exact pE (ek (by rw [hg2]; rfl))
   intro J
   refine Cm hg (.bool _) ?_
   exact pE (ek (by rw [hg]; rfl))
  repeat refine Bg hg ?_
  refine Cp (Cp (Cp (Bg hg (Cl hg (.bool _) ?_))))
  exact pE (ek (by rw [hg]; rfl))
 intro J
 refine pM (.bool _) ?_
 refine AP (l1 := [_, _, _, _, _, _, _, _]) [96, 97, 98, 99, 100, 101, 102, 103] 103 (.bool (((c3.Timer == 0) && ((c3.State != 0) || !c3.Shown)) && ((c3.State != 2) || c3.Shown))) ?_ ?_
 ·refine bc (b := ((c3.Timer == 0) && ((c3.State != 0) || !c3.Shown))) ?_ ?_ <;> intro hg
  ·refine AA hg (pF Az (AA hg ?_))
   refine CT hO 0 (.int _ _) B3 (AA hg ?_)
   refine AO (AA hg ?_)
   refine pM (.bool _) ?_
   refine AP (l1 := [_, _, _]) [100, 101, 102] 102 (.bool ((c3.State != 2) || c3.Shown)) ?_ ?_
   ·refine bc (b := (c3.State != 2)) (fun hg2 => ?_) (fun hg2 => ?_)
    ·refine Bg hg2 (Bg hg2 (AA hg (Cm hg2 (.bool _) ?_)))
     exact pE (ek (by rw [hg2]; rfl))
    refine AA hg2 (pF DW (AA hg2 ?_))
    refine CT hO 0 (.bool _) Fu (AA hg ?_)
    refine Cl hg2 (.bool _) ?_
    exact pE (ek (by rw [hg2]; rfl))
   intro J
   refine Cm hg (.bool _) ?_
   exact pE (ek (by rw [hg]; rfl))
  repeat refine Bg hg ?_
  refine Cp (Cp (Bg hg (Cl hg (.bool _) ?_)))
  exact pE (ek (by rw [hg]; rfl))
 intro J
 refine pA (.bool _) (pg (Au ?_))
 cases hk; exact AQ hO
def PH (aF0 : Frame) : ((List Bool) × (List AZ) × (List AD) × Int) → Option (((List Bool) × (List AZ) × (List AD) × Int) ⊕ Frame) := fun s =>
 (bif decide (s.2.2.2 < (aF0.A3.length : Int)) then ((AH aF0.A3 s.2.2.2).bind fun c17 => ((DP 1 ([] : List Bool) c17.Ac).bind fun z20 => ((DP 56 s.2.2.1 [({ State := c17.State, Aj := c17.Aj, Ac := z20, Shown := c17.Shown, Timer := c17.Timer } : AD)]).bind fun z26 => some (.inl (s.1, s.2.1, z26, BE (s.2.2.2 + 1)))))) else ((some ({ Ok := aF0.Ok, B1 := s.1, A1 := s.2.1, A3 := s.2.2.1 } : Frame)).map Sum.inr))
def gK (aF0 : Frame) : Option Frame :=
 ((DP 1 ([] : List Bool) aF0.B1).bind fun z4 => ((DP 16 ([] : List AZ) aF0.A1).bind fun z7 => (AG (PH aF0) (z4, z7, ([] : List AD), (0:Int)))))
theorem WR (hk : gK aF0 = some r) (hlk : 0 < lk.length := by simp) : ∃ v H1, Am ai hh 61 [.agg (Ah l1 0 l2 0 l3 m4 aF0)] H lk = some (v, H1) ∧ GH H r v H1 := by
 refine B0 Tryz.func61 rfl Tryz.ntmps61 Tryz.results61 rfl rfl ?_
 have hO := A4.nil H
 unfold gK at hk
 refine sr (BR (cs := [_, _, _, _]) hO BZ (fun b1 G hO => C9 hO BZ Qx (fun b2 G hO => pg (sr ?_))))
 refine Ad NL hO 1 (.bool _) Fu ?_
 refine NB [_, _, _, _] Qx rH (C9 hO BZ Qx (fun b3 G hO => ?_))
 refine Cg (xs := [_, _, _, _]) hO 0 BZ rfl (fun G hO => pg (sr ?_))
 refine Ad CP hO 0 (.tl 0 []) C5 ?_
 refine Ad CP hO 2 (.lit _ _ _) C5 ?_
 replace hO := A4.Hn hO lk.length ([] : List Bool)
 refine bk hk fun z4 hz4 hk => Uf (xs := ([] : List Bool)) hO 0 hz4 (IS _ aF0.B1) Cd Eu kM gV Cd rfl (fun o4 G hno4 hO => ?_)
 replace hno4 := hno4 Nz.nil
 refine pF CP ?_
 have hc6 := CI hO (j := 0) rfl
 refine Cg (xs := [_]) hO 1 Gs rfl (fun G hO => ?_) (h3 := hc6.1) (h6 := Bw hc6.2)
 refine pg (sr (Ad Cv hO 1 (.tl 0 []) H9 ?_))
 refine Ad Cv hO 3 (.lit _ _ _) H9 ?_
 replace hO := A4.Hn hO lk.length ([] : List AZ)
 refine bk hk fun z7 hz7 hk => Uf (xs := ([] : List AZ)) hO 0 hz7 (IS _ aF0.A1) Gm Dq kN UQ Gm rfl (fun o7 G hno7 hO => ?_)
 replace hno7 := hno7 Nz.nil
 refine pF Cv ?_
 have hc9 := CI hO (j := 0) rfl
 refine Cg (xs := [_]) hO 2 kV rfl (fun G hO => ?_) (h3 := hc9.1) (h6 := Bw hc9.2)
 refine pg (AV (sr (Ad BT hO 4 (.lit _ _ _) DZ ?_)))
 refine Ae Hk ?_
 refine pM (.int _ _) (pg (BO ?_))
 refine A9 (F := PH aF0) (fun s S' => ∃ o10 o12 o14 F15 J G, Nz o10 ∧ Nz o12 ∧ A4 H G [.own o10 lk.length 1 s.1.length (A8 0 s.1), .own o12 lk.length 2 s.2.1.length (A8 0 s.2.1), Ap H lk.length F15 s.2.2.1 o14, .AW b3 (.cells 4 [.bool aF0.Ok, o10, o12, o14]), .AW b2 (.cells 4 [.bool false, (.tl 0 []), (.tl 0 []), (.tl 0 [])])] ∧ S' = ⟨CM [(2, .ptr b2 0),(3, .ptr b3 0),(23, AK l3 m4 aF0.A3),(24, iv (aF0.A3.length : Int)),(25, iv s.2.2.2)] J, G⟩) hk ⟨o4, o7, (.tl 0 []), [], _, _, hno4, hno7, (A4.pick (A4.lZ hO AD lk.length) [2, 1, 0, 3, 4] (by decide) rfl), sh⟩ ?_
 rintro ⟨x10, x12, x14, x16⟩ _ y1 ⟨o10, o12, o14, F15, J, G, hno10, hno12, hO, rfl⟩ hk hx1
 refine sr (AO (pg (AV (Ak hk ?_ ?_)))) <;> intro hk
 ·refine Ao (gn (AV (BO (sr (bk hk fun c17 hc17 hk => pX hc17 Da Av ?_)))))
  refine Bq (.agg [_, _, _, _, _]) (GC (lm := m4) (off := 0) hc17 Gl Av) (C9 hO Av G8 (fun b18 G hO => ?_))
  refine Cg (xs := [_, _, _, _, _]) hO 0 Av rfl (fun G hO => pg (sr ?_))
  refine D9 hO 0 [_, _, _, _, _] Gl Av (C9 hO Av G8 (fun b19 G hO => ?_))
  refine Cg (xs := [_, _, _, _, _]) hO 0 Av rfl (fun G hO => pg (sr ?_))
  refine Vi (ps := []) ([] : List Bool) Cd Eu gV (EJ) ?_
  refine Ad CC hO 1 (.lit _ _ _) C5 ?_
  replace hO := A4.Hn hO lk.length ([] : List Bool)
  refine bk hk fun z20 hz20 hk => Uf (xs := ([] : List Bool)) hO 0 hz20 (IS _ c17.Ac) Cd Eu kM gV Cd rfl (fun o20 G hno20 hO => ?_)
  replace hno20 := hno20 Nz.nil
  refine pF CC ?_
  have hc22 := CI hO (j := 0) rfl
  refine Cg (xs := [_]) hO 1 Gs rfl (fun G hO => ?_) (h3 := hc22.1) (h6 := Bw hc22.2)
  refine pg (Bs (Ad BT hO 6 o14 DZ ?_))
  refine D9 hO 1 [_, _, _, _, _] Gl Av ?_
  have hc23 := CI hO (j := 0) rfl
  refine qW (ce := [iv c17.State, iv c17.Aj, o20, .bool c17.Shown, iv c17.Timer]) Da Av G8 rfl rfl (Aa rfl (Aa rfl (Aa hc23.2 (Aa rfl (Aa rfl DL))))) ?_
  obtain ⟨F25, hO, _⟩ := A4.oJ hO hno20 hlk
  replace hO := (hO.treeMap (p' := fun G => Ds H.length lk.length (Aw.dep AD) (fun G => Aw.tr G (({ State := c17.State, Aj := c17.Aj, Ac := z20, Shown := c17.Shown, Timer := c17.Timer } : AD) : AD)) G [iv c17.State, iv c17.Aj, o20, .bool c17.Shown, iv c17.Timer] F25) fun G h => (Ds.Nm (c17.State : Int) rfl (Ds.Nm (c17.Aj : Int) rfl (Ds.U9 (c17.Shown, c17.Timer) rfl (Ds.up (m := Aw.dep AD) rfl h)))))
  have hce24 : ([iv c17.State, iv c17.Aj, o20, .bool c17.Shown, iv c17.Timer] : List V).length = AL.sz AD ∧ ([iv c17.State, iv c17.Aj, o20, .bool c17.Shown, iv c17.Timer] : List V).all V.Bm = true := ⟨rfl, (Aa rfl (Aa rfl (Aa hc23.2 (Aa rfl (Aa rfl DL)))))⟩
  refine bk hk fun z26 hz26 hk => qV hO 4 hz26 hce24.1 hce24.2 Da Av aQ G8 Da rfl (fun o26 F27 G hO => ?_)
  refine pF BT ?_
  have hc28 := TP hO (j := 4) rfl
  refine Cg (xs := [_]) hO 5 kW rfl (fun G hO => ?_) (h3 := hc28.1) (h6 := Bw hc28.2)
  refine pE (bn (gn (Bs (AO ?_))))
  refine pM (.int _ _) (pg ?_)
  cases hk; exact ⟨_, rfl, o10, o12, o26, F27, _, _, hno10, hno12, (pk hO [2, 3, 4, 5, 6]), sh⟩
 refine D5 (ge (ge (be (gn (have hk := lx hx1 hk; sr (D9 hO 3 [_, _, _, _] DT BZ ?_))))))
 have hc29 := CI hO (j := 0) rfl
 have hc30 := CI hO (j := 1) rfl
 have hc31 := TP hO (j := 2) rfl
 refine Cg (xs := [_, _, _, _]) hO 4 BZ rfl (fun G hO => ?_) (h6 := (Aa rfl (Aa hc29.2 (Aa hc30.2 (Aa hc31.2 DL)))))
 refine pg (Au ?_)
 replace hk := av hk; subst hk; exact FG hO (Es (As (c1 := [_]) (FD aF0.Ok) (As (c1 := [_]) (bE hno10 hlk 0) (As (c1 := [_]) (bE hno12 hlk 0) (pK hlk 0))))) (FB hO 4 [_, _, _, _] DT BZ DQ)
def PX (aF1 : Frame) (x5 : Int) (c6 : List Af) : Int → Option (Int ⊕ (Int ⊕ Bool)) := fun s =>
 (bif decide (s < (c6.length : Int)) then ((AH c6 s).bind fun c8 => ((AH aF1.A1 c8.Switch).bind fun c10 => ((bif (c10.Want != c8.CK) then some true else ((AH aF1.A1 c8.Switch).bind fun c12 => some (c12.AJ != c8.CK))).bind fun t11 => (bif t11 then (((some false).map Sum.inr).map Sum.inr) else some (.inl (BE (s + 1))))))) else ((some (.inl (BE (x5 + 1)))).map Sum.inr))
def PY (aF1 : Frame) (x13 : Int) (c14 : List Int) : Int → Option (Int ⊕ (Int ⊕ Bool)) := fun s =>
 (bif decide (s < (c14.length : Int)) then ((AH c14 s).bind fun c16 => ((AH aF1.B1 c16).bind fun c17 => (bif c17 then (((some false).map Sum.inr).map Sum.inr) else some (.inl (BE (s + 1)))))) else ((some (.inl (BE (x13 + 1)))).map Sum.inr))
def Mq (aF1 : Frame) (c3 : CA) : Int → Option (Int ⊕ Bool) := fun s =>
 (bif decide (s < (([c3.A0, c3.Bl] : List (List Int)).length : Int)) then ((AH ([c3.A0, c3.Bl] : List (List Int)) s).bind fun c14 => (AG (PY aF1 s c14) ((0:Int)))) else ((some true).map Sum.inr))
def PW (aF1 : Frame) (c3 : CA) : Int → Option (Int ⊕ Bool) := fun s =>
 (bif decide (s < (([c3.AJ, c3.A7] : List (List Af)).length : Int)) then ((AH ([c3.AJ, c3.A7] : List (List Af)) s).bind fun c6 => (AG (PX aF1 s c6) ((0:Int)))) else ((AG (Mq aF1 c3) ((0:Int))).map Sum.inr))
def nP (aP0 : AT) (aF1 : Frame) (aI2 : Int) : Option Bool :=
 ((AH aP0.A3 aI2).bind fun c3 => (AG (PW aF1 c3) ((0:Int))))
theorem eE (hk : nP aP0 aF1 aI2 = some r) (hlk : 0 < lk.length := by simp) : Am ai hh 93 [.agg (AY l1 0 l2 m3 l4 m5 aP0), .agg (Ah l6 0 l7 0 l8 m9 aF1), iv aI2] H lk = some (.bool r, H) := by
 refine AF Tryz.func93 rfl Tryz.ntmps93 Tryz.results93 rfl rfl fun hO => ?_
 unfold nP at hk
 refine sr (BR (cs := [_, _, _, _, _]) hO C0 (fun b1 G hO => ?_))
 refine BR (cs := [_, _, _, _]) hO BZ (fun b2 G hO => ?_)
 refine pA (.bool _) (pg (sr ?_))
 refine Ad BY hO 1 (.lit _ _ _) Df ?_
 refine pM (.int _ _) (bk hk fun c3 hc3 hk => ?_)
 refine pX hc3 EY Ay ?_
 refine Bq (.agg [_, _, _, _, _]) (GC (lm := m3) (off := 0) hc3 Ec Ay) (C9 hO Ay Il (fun b4 G hO => ?_))
 refine Cg (xs := [_, _, _, _, _]) hO 0 Ay rfl (fun G hO => pg (AV (sr ?_)))
 refine Ad ER hO 0 (.lit _ _ _) Db ?_
 refine Ad Ed hO 0 (.lit _ _ _) Db ?_
 refine eX (ps := [(0, (.lit _ _ _)), (1, (.lit _ _ _))]) m3 ([c3.AJ, c3.A7] : List (List Af)) Rh Nw aM ?_
 refine Ae aZ ?_
 refine pM (.int _ _) (pg (BO ?_))
 refine A9 (F := PW aF1 c3) (fun s S' => ∃ J G, A4 H G [.AW b4 (.cells 5 (DG m3 0 m3 0 m3 0 m3 0 m3 0 c3)), .AW b2 (.cells 4 (Ah l6 0 l7 0 l8 m9 aF1))] ∧ S' = ⟨CM [(4, .ptr b2 0),(7, .ptr b4 0),(25, (.tl 2 (A8 m3 ([c3.AJ, c3.A7] : List (List Af))))),(26, iv (([c3.AJ, c3.A7] : List (List Af)).length : Int)),(27, iv s)] J, G⟩) hk ⟨_, _, (pk hO [0, 1]), sh⟩ ?_
 rintro x5 _ y1 ⟨J, G, hO, rfl⟩ hk hx1
 refine sr (AO (pg (AV (Ak hk ?_ ?_)))) <;> intro hk
 ·refine Ao (gn (AV (BO (sr (bk hk fun c6 hc6 hk => fA (lm := m3) hc6 Rh Nw ?_)))))
  refine Bq (.lit _ _ _) (Cu (lm := m3) (off := 0) hc6 Db) ?_
  refine pA (.lit _ _ _) (pg (sr ?_))
  refine pM (.lit _ _ _) ?_
  refine Ae FF ?_
  refine pM (.int _ _) (pg (BO ?_))
  refine A9 (F := PX aF1 x5 c6) (fun s S' => ∃ J G, A4 H G [.AW b4 (.cells 5 (DG m3 0 m3 0 m3 0 m3 0 m3 0 c3)), .AW b2 (.cells 4 (Ah l6 0 l7 0 l8 m9 aF1))] ∧ S' = ⟨CM [(4, .ptr b2 0),(7, .ptr b4 0),(25, (.tl 2 (A8 m3 ([c3.AJ, c3.A7] : List (List Af))))),(26, iv (([c3.AJ, c3.A7] : List (List Af)).length : Int)),(27, iv x5),(31, AK m3 0 c6),(32, iv (c6.length : Int)),(33, iv s)] J, G⟩) hk ⟨_, _, hO, sh⟩ ?_
  rintro x7 _ y2 ⟨J, G, hO, rfl⟩ hk hx2
  refine sr (AO (pg (AV (Ak hk ?_ ?_)))) <;> intro hk
  ·refine Ao (gn (AV (BO (sr (bk hk fun c8 hc8 hk => pX hc8 Dy BA ?_)))))
   refine Bq (.agg [_, _]) (GC (lm := 0) (off := 0) hc8 G9 BA) (C9 hO BA Fo (fun b9 G hO => ?_))
   refine Cg (xs := [_, _]) hO 0 BA rfl (fun G hO => pg (AV ?_))
   refine HY [1,3,5,7,9,11,13,15,17,18,20,23,25,27,29,31,33,35,37,39,40,42] [_,_,_,_,_,_,_,_,_,_,_,_,_,_,_,_,_,_,_,_,_,_] ?_
   refine Ad Cv hO 2 (.lit _ _ _) H9 ?_
   refine Ad CU hO 0 (.int _ _) B3 (bk hk fun c10 hc10 hk => ?_)
   refine pX hc10 Gm Dq ?_
   refine pF GA ?_
   refine Bq (.int _ _) (Cu (lm := 0) (off := 0) hc10 B3) ?_
   refine Ad E7 hO 0 (.int _ _) B3 ?_
   refine AO ?_
   refine pM (.bool _) (bk hk fun t11 ht hk => ?_)
   refine AP (l1 := [_, _, _, _, _, _, _, _, _, _, _]) [48, 49, 50, 51, 52, 53, 54, 55, 56, 57, 58] 58 (.bool t11) ?_ ?_
   ·refine bc (b := (c10.Want != c8.CK)) ?_ ?_ <;> intro hg
    ·replace hk := ct hg ht
     repeat refine Bg hg ?_
     refine Cm hg (.bool _) ?_
     cases hk; exact pE ek
    replace hk := cf hg ht
    refine AA hg (pF Cv (AA hg ?_))
    refine CT hO 2 (.lit _ _ _) H9 (AA hg ?_)
    refine pF CU (AA hg ?_)
    refine CT hO 0 (.int _ _) B3 (AA hg (bk hk fun c12 hc12 hk => ?_))
    refine pX hc12 Gm Dq (AA hg ?_)
    refine pF IN (AA hg ?_)
    refine Bq (.int _ _) (Cu (lm := 0) (off := 1) hc12 B3) (AA hg ?_)
    refine pF E7 (AA hg ?_)
    refine CT hO 0 (.int _ _) B3 (AA hg ?_)
    refine AO ?_
    refine Cl hg (.bool _) ?_
    cases hk; exact pE ek
   intro J
   refine pg (Ak hk ?_ ?_) <;> intro hk
   ·refine sr (pA (.bool _) (pg (Au (br (gr (gr (br (br (gr (gr (br (gr (have hk := lx hx2 hk; have hk := lx hx1 hk; ?_)))))))))))))
    cases hk; exact AQ hO
   refine Ao (bn (gn (Bs (AO ?_))))
   refine pM (.int _ _) (pg ?_)
   cases hk; exact ⟨_, rfl, _, _, (pk hO [1, 2]), sh⟩
  refine D5 (ge (ge (be (bn (gn (have hk := lx hx2 hk; Bs (AO ?_)))))))
  refine pM (.int _ _) (pg ?_)
  cases hk; exact ⟨_, rfl, _, _, hO, sh⟩
 refine D5 (ge (ge (be (gn (have hk := lx hx1 hk; AV (sr (Ad BS hO 0 (.lit _ _ _) BN ?_)))))))
 refine Ad E6 hO 0 (.lit _ _ _) BN ?_
 refine eX (ps := [(0, (.lit _ _ _)), (1, (.lit _ _ _))]) m3 ([c3.A0, c3.Bl] : List (List Int)) hJ ML rD ?_
 refine Ae pI ?_
 refine pM (.int _ _) (pg (BO ?_))
 refine A9 (F := Mq aF1 c3) (fun s S' => ∃ J G, A4 H G [.AW b2 (.cells 4 (Ah l6 0 l7 0 l8 m9 aF1))] ∧ S' = ⟨CM [(4, .ptr b2 0),(65, (.tl 2 (A8 m3 ([c3.A0, c3.Bl] : List (List Int))))),(66, iv (([c3.A0, c3.Bl] : List (List Int)).length : Int)),(67, iv s)] J, G⟩) hk ⟨_, _, (pk hO [1]), sh⟩ ?_
 rintro x13 _ y1 ⟨J, G, hO, rfl⟩ hk hx1
 refine sr (AO (pg (AV (Ak hk ?_ ?_)))) <;> intro hk
 ·refine Ao (gn (AV (BO (sr (bk hk fun c14 hc14 hk => fA (lm := m3) hc14 hJ ML ?_)))))
  refine Bq (.lit _ _ _) (Cu (lm := m3) (off := 0) hc14 BN) ?_
  refine pA (.lit _ _ _) (pg (sr ?_))
  refine pM (.lit _ _ _) ?_
  refine Ae DA ?_
  refine pM (.int _ _) (pg (BO ?_))
  refine A9 (F := PY aF1 x13 c14) (fun s S' => ∃ J G, A4 H G [.AW b2 (.cells 4 (Ah l6 0 l7 0 l8 m9 aF1))] ∧ S' = ⟨CM [(4, .ptr b2 0),(65, (.tl 2 (A8 m3 ([c3.A0, c3.Bl] : List (List Int))))),(66, iv (([c3.A0, c3.Bl] : List (List Int)).length : Int)),(67, iv x13),(71, AK m3 0 c14),(72, iv (c14.length : Int)),(73, iv s)] J, G⟩) hk ⟨_, _, hO, sh⟩ ?_
  rintro x15 _ y2 ⟨J, G, hO, rfl⟩ hk hx2
  refine sr (AO (pg (AV (Ak hk ?_ ?_)))) <;> intro hk
  ·refine Ao (gn (AV (BO (sr (bk hk fun c16 hc16 hk => pX hc16 CG DB ?_)))))
   refine Bq (.int _ _) (Cu (lm := 0) (off := 0) hc16 B3) ?_
   refine pA (.int _ _) (pg (sr ?_))
   refine Ad CP hO 0 (.lit _ _ _) C5 ?_
   refine pM (.int _ _) (bk hk fun c17 hc17 hk => ?_)
   refine pX hc17 Cd Eu ?_
   refine Bq (.bool _) (Cu (lm := 0) (off := 0) hc17 Fu) (pg (Ak hk ?_ ?_)) <;> intro hk
   ·refine sr (pA (.bool _) (pg (Au (br (gr (gr (br (br (gr (gr (br (gr (have hk := lx hx2 hk; have hk := lx hx1 hk; ?_)))))))))))))
    cases hk; exact AQ hO
   refine Ao (bn (gn (Bs (AO ?_))))
   refine pM (.int _ _) (pg ?_)
   cases hk; exact ⟨_, rfl, _, _, hO, sh⟩
  refine D5 (ge (ge (be (bn (gn (have hk := lx hx2 hk; Bs (AO ?_)))))))
  refine pM (.int _ _) (pg ?_)
  cases hk; exact ⟨_, rfl, _, _, hO, sh⟩
 refine D5 (ge (ge (be (gn (have hk := lx hx1 hk; sr (pA (.bool _) (pg (Au ?_))))))))
 cases hk; exact AQ hO
def gL (aH0 : List AD) (aH0i : Int) : Option (List AD) :=
 (AH aH0 aH0i).bind fun c1 => ((Gv 1 (c1.Ac.length : Int)).bind fun m3 => some (aH0.set aH0i.toNat ({ State := 0, Aj := 0, Ac := cq m3 (false : Bool), Shown := false, Timer := 0 } : AD)))
theorem SZ (hk : gL aH0 aH0i = some r) (hv0 : vp1 = .sl b0 0 aH0.length) (hO : A4 H H [AI S0 Fp1 aH0 [vp1]]) (hS : ∀ b ∈ S0, AX lk b = true) (hlt : ∀ b ∈ S0, b < H.length) (hlo : EE lk H.length) (hlk : 0 < lk.length := by simp) : ∃ v H1, Am ai hh 65 [.ptr b0 (aH0i.toNat * 5)] H lk = some (v, H1) ∧ v = .GS [] ∧ ∃ (Fs : List Nat) (Hm : A6), Bu H Hm (S0) ∧ A4 Hm H1 [AI S0 Fs r [vp1]] := by
 refine B0 Tryz.func65 rfl Tryz.ntmps65 Tryz.results65 rfl rfl ?_
 have hFr := Bu.refl H (S0)
 unfold gL at hk
 refine bk hk fun c1 hc1 hk => sr (pM (.ptr _ _) ?_)
 refine C4 ?_
 refine pF CC ?_
 refine Vl D0 hO 0 hv0 hc1 C5 (fun u2 fs2 hs2 => ?_)
 refine oF hs2 Hj ?_
 refine pA (.int _ _) (pg (Bs ?_))
 refine pM (.ptr _ _) ?_
 refine pM (.int _ _) (bk hk fun m3 hm3 hk => ?_)
 refine lQ hO hm3 (false : Bool) Cd Eu kM gV (fun b4 G hO => ?_)
 refine NB [_, _, _, _, _] G8 hZ ?_
 refine C4 ?_
 replace hO := A4.pL hO ga
 replace hO := (hO.treeMap (p' := fun G => CR G (({ State := 0, Aj := 0, Ac := cq m3 (false : Bool), Shown := false, Timer := 0 } : AD) : AD) [iv 0, iv 0, .sl b4 0 m3, .bool false, iv 0] [b4]) fun G h => (CR.Nm (0 : Int) (CR.Nm (0 : Int) (CR.U9 (false, 0) h))))
 refine gT hO 0 hv0 hc1 Av hFr hS rfl (fun H1 G hFr hO => pE ?_)
 replace hk := av hk; subst hk; exact Sj ((Fp1 ++ [b4])) hO hFr (FI Gr TD) rfl rfl rfl rfl (by first | exact Or.inl rfl | exact Or.inr rfl)
def Sf (x6 : Int) (x7 : List AD) (c8 : AD) : Option (((List AD) × AD × Int) ⊕ Frame) :=
 some (.inl (x7, c8, BE (x6 + 1)))
def Kx (aW0 : CA) (aF1 : Frame) (aH2i : Int) : ((List AD) × AD) → Option (((List AD) × AD) ⊕ Frame) := fun s =>
 (bif decide (s.2.Aj < (aW0.A0.length : Int)) then ((AH s.2.Ac s.2.Aj).bind fun c21 => ((bif !c21 then some true else ((AH aW0.A0 s.2.Aj).bind fun c24 => ((AH aF1.B1 c24).bind fun c25 => some c25))).bind fun t23 => ((bif t23 then some true else ((bif decide (s.2.Aj < (BE ((aW0.A0.length : Int) - 1))) then ((AH s.2.Ac (BE (s.2.Aj + 1))).bind fun c30 => some (!c30)) else some false).bind fun t28 => some t28)).bind fun t27 => (bif t27 then ((some ({ Ok := aF1.Ok, B1 := aF1.B1, A1 := aF1.A1, A3 := s.1 } : Frame)).map Sum.inr) else some (.inl (s.1.set aH2i.toNat ({ s.2 with Aj := BE (s.2.Aj + 1) }), ({ s.2 with Aj := BE (s.2.Aj + 1) } : AD))))))) else (((gL s.1 aH2i).bind fun z33 => some ({ Ok := aF1.Ok, B1 := aF1.B1, A1 := aF1.A1, A3 := z33 } : Frame)).map Sum.inr))
def PZ (aW0 : CA) (aF1 : Frame) (aH2i : Int) : ((List AD) × AD × Int) → Option (((List AD) × AD × Int) ⊕ Frame) := fun s =>
 (bif decide (s.2.2 < (aW0.A0.length : Int)) then ((AH aW0.A0 s.2.2).bind fun c10 => ((AH aF1.B1 c10).bind fun c11 => (bif c11 then ((AH s.2.1.Ac s.2.2).bind fun c14 => (Sf s.2.2 (s.1.set aH2i.toNat ({ s.2.1 with Ac := s.2.1.Ac.set s.2.2.toNat true })) ({ s.2.1 with Ac := s.2.1.Ac.set s.2.2.toNat true } : AD))) else (Sf s.2.2 s.1 s.2.1)))) else ((AG (Kx aW0 aF1 aH2i) (s.1, s.2.1)).map Sum.inr))
def nQ (aW0 : CA) (aF1 : Frame) (aH2i : Int) : Option Frame :=
 (AH aF1.A3 aH2i).bind fun c1 => (AG (PZ aW0 aF1 aH2i) (aF1.A3, c1, (0:Int)))
theorem eF (hk : nQ aW0 aF1 aH2i = some r) (hv0 : vp3 = .sl b0 0 aF1.A3.length) (hO : A4 H H [.Cs S0 q0 (.cells 4 [.bool aF1.Ok, vp1, vp2, vp3]), AI S0 Fp1 aF1.B1 [vp1], AI S0 Fp2 aF1.A1 [vp2], AI S0 Fp3 aF1.A3 [vp3]]) (hS : ∀ b ∈ S0, AX lk b = true) (hlt : ∀ b ∈ S0, b < H.length) (hlo : EE lk H.length) (hlk : 0 < lk.length := by simp) : ∃ v H1, Am ai hh 94 [.agg (DG l1 0 l2 0 l3 0 l4 0 l5 0 aW0), .ptr q0 0, .ptr b0 (aH2i.toNat * 5)] H lk = some (v, H1) ∧ v = .GS [] ∧ ∃ (Fs : List Nat × List Nat × List Nat) (Hm : A6), Bu H Hm (S0) ∧ A4 Hm H1 [.Cs S0 q0 (.cells 4 [.bool r.Ok, vp1, vp2, vp3]), AI S0 Fs.1 r.B1 [vp1], AI S0 Fs.2.1 r.A1 [vp2], AI S0 Fs.2.2 r.A3 [vp3]] := by
 refine B0 Tryz.func94 rfl Tryz.ntmps94 Tryz.results94 rfl rfl ?_
 have hFr := Bu.refl H (S0)
 unfold nQ at hk
 have hq := (ak.1 (hO.VD (k := 0) rfl).1).1
 refine bk hk fun c1 hc1 hk => sr (BR (cs := [_, _, _, _, _]) hO Ay (fun b2 G hO => pg (sr ?_)))
 refine Ad BS hO 0 (.lit _ _ _) BN ?_
 refine Ae DA ?_
 refine pA (.int _ _) (pg (AV (sr ?_)))
 refine Ad BS hO 0 (.lit _ _ _) BN ?_
 refine Ae DA ?_
 refine pM (.int _ _) (pg (BO ?_))
 refine A9 (F := PZ aW0 aF1 aH2i) (fun s S' => ∃ J G H1, AH s.1 aH2i = some s.2.1 ∧ vp3 = .sl b0 0 s.1.length ∧ Bu H H1 S0 ∧ A4 H1 G [.AW b2 (.cells 5 (DG l1 0 l2 0 l3 0 l4 0 l5 0 aW0)), .Cs S0 q0 (.cells 4 [.bool aF1.Ok, vp1, vp2, vp3]), AI S0 Fp1 aF1.B1 [vp1], AI S0 Fp2 aF1.A1 [vp2], AI S0 Fp3 s.1 [vp3]] ∧ S' = ⟨CM [(1, .ptr q0 0),(2, .ptr b0 (aH2i.toNat * 5)),(3, .ptr b2 0),(6, iv (aW0.A0.length : Int)),(14, AK l1 0 aW0.A0),(15, iv (aW0.A0.length : Int)),(16, iv s.2.2)] J, G⟩) hk ⟨_, _, _, hc1, hv0, hFr, hO, sh⟩ ?_
 rintro ⟨x3, c4, x6⟩ _ y1 ⟨J, G, H1, hc4, hv5, hFr, hO, rfl⟩ hk hx1
 refine sr (AO (pg (AV (Ak hk ?_ ?_)))) <;> intro hk
 ·refine Ao (gn (By (fun S' => ∃ x7 c8 J G H1, Sf x6 x7 c8 = some y1 ∧ AH x7 aH2i = some c8 ∧ vp3 = .sl b0 0 x7.length ∧ Bu H H1 S0 ∧ A4 H1 G [.AW b2 (.cells 5 (DG l1 0 l2 0 l3 0 l4 0 l5 0 aW0)), .Cs S0 q0 (.cells 4 [.bool aF1.Ok, vp1, vp2, vp3]), AI S0 Fp1 aF1.B1 [vp1], AI S0 Fp2 aF1.A1 [vp2], AI S0 Fp3 x7 [vp3]] ∧ S' = ⟨CM [(1, .ptr q0 0),(2, .ptr b0 (aH2i.toNat * 5)),(3, .ptr b2 0),(6, iv (aW0.A0.length : Int)),(14, AK l1 0 aW0.A0),(15, iv (aW0.A0.length : Int)),(16, iv x6)] J, G⟩) ?_ ?_))
  ·refine BO (sr (pM (.int _ _) (bk hk fun c10 hc10 hk => ?_)))
   refine pX hc10 CG DB ?_
   refine Bq (.int _ _) (Cu (lm := 0) (off := 0) hc10 B3) ?_
   refine pA (.int _ _) ?_
   refine pA (.int _ _) (pg (sr ?_))
   refine pM (.ptr _ _) ?_
   refine C4 ?_
   refine pF CP ?_
   refine Wm hO 1 vp1 C5 ?_
   refine pM (.int _ _) (bk hk fun c11 hc11 hk => ?_)
   refine HZ hO 2 hc11 Cd Eu (fun b12 hb12 => ?_)
   refine EV (Br.all (α := Bool)) (.bool _) hO 2 hb12 hc11 Fu (pg (Ak hk ?_ ?_)) <;> intro hk
   ·refine Bs (pM (.ptr _ _) ?_)
    refine C4 ?_
    refine pF CC ?_
    refine Vl D0 hO 4 hv5 hc4 C5 (fun u13 fs13 hs13 => ?_)
    refine pM (.int _ _) (bk hk fun c14 hc14 hk => ?_)
    refine kF hs13 hc14 Cd Eu (fun b15 hb15 => ?_)
    refine oH (y' := true) hO 4 hs13 hb15 hc14 Eu (fun _ => ⟨rfl, rfl⟩) hFr hS rfl (fun H1 G hFr hO => ?_)
    replace hO : A4 H1 G [.AW b2 (.cells 5 (DG l1 0 l2 0 l3 0 l4 0 l5 0 aW0)), .Cs S0 q0 (.cells 4 [.bool aF1.Ok, vp1, vp2, vp3]), AI S0 Fp1 aF1.B1 [vp1], AI S0 Fp2 aF1.A1 [vp2], AI S0 Fp3 (x3.set aH2i.toNat ({ c4 with Ac := c4.Ac.set x6.toNat true })) [vp3]] := hO
    have hc_16 := B2 hc4 ({ c4 with Ac := c4.Ac.set x6.toNat true } : AD)
    have hv_16 := Bn (j := aH2i.toNat) (y := ({ c4 with Ac := c4.Ac.set x6.toNat true } : AD)) hv5
    exact pE (bn (gn (⟨x3.set aH2i.toNat ({ c4 with Ac := c4.Ac.set x6.toNat true }), ({ c4 with Ac := c4.Ac.set x6.toNat true } : AD), _, _, _, hk, hc_16, hv_16, hFr, hO, sh⟩)))
   exact Ao (bn (gn (⟨x3, c4, _, _, _, hk, hc4, hv5, hFr, hO, sh⟩)))
  rintro _ ⟨x7, c8, J, G, H1, hk, hc8, hv9, hFr, hO, rfl⟩
  refine Bs (AO ?_)
  refine pM (.int _ _) (pg ?_)
  cases hk; exact ⟨_, rfl, _, _, _, hc8, hv9, hFr, hO, sh⟩
 refine D5 (ge (ge (be (gn (have hk := lx hx1 hk; AV (BO (A9 (F := Kx aW0 aF1 aH2i) (fun s S' => ∃ J G H1, AH s.1 aH2i = some s.2 ∧ vp3 = .sl b0 0 s.1.length ∧ Bu H H1 S0 ∧ A4 H1 G [.AW b2 (.cells 5 (DG l1 0 l2 0 l3 0 l4 0 l5 0 aW0)), .Cs S0 q0 (.cells 4 [.bool aF1.Ok, vp1, vp2, vp3]), AI S0 Fp1 aF1.B1 [vp1], AI S0 Fp2 aF1.A1 [vp2], AI S0 Fp3 s.1 [vp3]] ∧ S' = ⟨CM [(1, .ptr q0 0),(2, .ptr b0 (aH2i.toNat * 5)),(3, .ptr b2 0),(6, iv (aW0.A0.length : Int))] J, G⟩) hk ⟨_, _, _, hc4, hv5, hFr, hO, sh⟩ ?_)))))))
 rintro ⟨x17, c18⟩ _ y1 ⟨J, G, H1, hc18, hv19, hFr, hO, rfl⟩ hk hx1
 refine AV (sr (pM (.ptr _ _) ?_))
 refine C4 ?_
 refine pF C7 ?_
 refine EV C3 (.int _ _) hO 4 hv19 hc18 B3 ?_
 refine pM (.int _ _) ?_
 refine AO (pg (Ak hk ?_ ?_)) <;> intro hk
 ·refine Ao (gn (BO (sr (pM (.ptr _ _) ?_))))
  refine C4 ?_
  refine pF C7 ?_
  refine EV C3 (.int _ _) hO 4 hv19 hc18 B3 ?_
  refine pA (.int _ _) (pg (AV (AV ?_)))
  refine HY [0,2,4,7,9,10,13,14,16,19,21,23,25,27,29,31,33,35,36,39,40,42,44,46,48,50,52,54,56,58,61,63,65,66,69,70,72,74] [_,_,_,_,_,_,_,_,_,_,_,_,_,_,_,_,_,_,_,_,_,_,_,_,_,_,_,_,_,_,_,_,_,_,_,_,_,_] ?_
  refine pM (.ptr _ _) ?_
  refine C4 ?_
  refine pF CC ?_
  refine Vl D0 hO 4 hv19 hc18 C5 (fun u20 fs20 hs20 => ?_)
  refine pM (.int _ _) (bk hk fun c21 hc21 hk => ?_)
  refine kF hs20 hc21 Cd Eu (fun b22 hb22 => ?_)
  refine Zy (.bool _) hs20 hb22 hc21 Fu ?_
  refine pU ?_
  refine pM (.bool _) (bk hk fun t23 ht hk => ?_)
  refine AP (l1 := [_, _, _, _, _, _, _, _, _, _, _, _]) [54, 55, 56, 57, 58, 59, 60, 61, 62, 63, 64, 65] 65 (.bool t23) ?_ ?_
  ·refine bc (b := !c21) ?_ ?_ <;> intro hg
   ·replace hk := ct hg ht
    repeat refine Bg hg ?_
    refine Cm hg (.bool _) ?_
    cases hk; exact pE ek
   replace hk := cf hg ht
   refine AA hg (pM (.ptr _ _) (AA hg ?_))
   refine C4 (AA hg ?_)
   refine pF CP (AA hg ?_)
   refine Wm hO 1 vp1 C5 (AA hg ?_)
   refine pF BS (AA hg ?_)
   refine CT hO 0 (.lit _ _ _) BN (AA hg ?_)
   refine pM (.int _ _) (AA hg (bk hk fun c24 hc24 hk => ?_))
   refine pX hc24 CG DB (AA hg ?_)
   refine Bq (.int _ _) (Cu (lm := 0) (off := 0) hc24 B3) (AA hg (bk hk fun c25 hc25 hk => ?_))
   refine HZ hO 2 hc25 Cd Eu (fun b26 hb26 => AA hg ?_)
   refine EV (Br.all (α := Bool)) (.bool _) hO 2 hb26 hc25 Fu ?_
   refine Cl hg (.bool _) ?_
   cases hk; exact pE ek
  intro J
  refine pM (.bool _) (bk hk fun t27 ht hk => ?_)
  refine AP (l1 := [_, _, _, _, _, _, _, _, _, _, _, _, _, _, _, _]) [67, 68, 69, 70, 71, 72, 73, 74, 75, 76, 77, 78, 79, 80, 81, 82] 82 (.bool t27) ?_ ?_
  ·refine bc (b := t23) ?_ ?_ <;> intro hg
   ·replace hk := ct hg ht
    repeat refine Bg hg ?_
    refine Cp (Cp (Cp (Cp (Cp (Cp (Cp (Cp (Cp (Bg hg (Cm hg (.bool _) ?_))))))))))
    cases hk; exact pE ek
   replace hk := cf hg ht
   refine AA hg (pM (.int _ _) (AA hg ?_))
   refine pM (.int _ _) (AA hg ?_)
   refine AO (AA hg ?_)
   refine AO (AA hg ?_)
   refine pM (.bool _) (bk hk fun t28 ht hk => ?_)
   refine AP (l1 := [_, _, _, _, _, _, _, _, _, _]) [72, 73, 74, 75, 76, 77, 78, 79, 80, 81] 81 (.bool t28) ?_ ?_
   ·refine bc (b := decide (c18.Aj < (BE ((aW0.A0.length : Int) - 1)))) (fun hg2 => ?_) (fun hg2 => ?_)
    ·replace hk := ct hg2 ht
     refine AA hg2 (pM (.ptr _ _) (AA hg2 ?_))
     refine C4 (AA hg2 ?_)
     refine pF CC (AA hg2 ?_)
     refine Vl D0 hO 4 hv19 hc18 C5 (fun u29 fs29 hs29 => AA hg2 ?_)
     refine pM (.int _ _) (AA hg2 ?_)
     refine AO (AA hg2 (bk hk fun c30 hc30 hk => ?_))
     refine kF hs29 hc30 Cd Eu (fun b31 hb31 => AA hg2 ?_)
     refine Zy (.bool _) hs29 hb31 hc30 Fu (AA hg2 ?_)
     refine pU (AA hg ?_)
     refine Cm hg2 (.bool _) ?_
     cases hk; exact pE ek
    replace hk := cf hg2 ht
    repeat refine Bg hg2 ?_
    refine AA hg (Cl hg2 (.bool _) ?_)
    cases hk; exact pE ek
   intro J
   refine Cl hg (.bool _) ?_
   cases hk; exact pE ek
  intro J
  refine pg (Ak hk ?_ ?_) <;> intro hk
  ·refine Au (gr (br (gr (br (gr (have hk := lx hx1 hk; ?_))))))
   replace hk := av hk; subst hk; exact Sj (Fp1, Fp2, Fp3) (pk hO [1, 2, 3, 4]) hFr (FI (UI hq) (FI Gr (FI Gr (FI Gr TD)))) rfl rfl rfl rfl (by first | exact Or.inl rfl | exact Or.inr rfl)
  refine Ao (gn (Bs (pM (.ptr _ _) ?_)))
  refine C4 ?_
  refine pF C7 ?_
  refine EV C3 (.int _ _) hO 4 hv19 hc18 B3 ?_
  refine AO ?_
  refine C4 ?_
  refine pF C7 ?_
  refine Kb C3 (y' := (BE (c18.Aj + 1))) hO 4 hv19 hc18 DB (fun _ => ⟨rfl, rfl⟩) hFr hS rfl (fun H1 G hFr hO => ?_)
  have hc_32 := B2 hc18 ({ c18 with Aj := BE (c18.Aj + 1) } : AD)
  have hv_32 := Bn (j := aH2i.toNat) (y := ({ c18 with Aj := BE (c18.Aj + 1) } : AD)) hv19
  refine pE (bn (gn ?_))
  cases hk; exact ⟨_, rfl, _, _, _, hc_32, hv_32, hFr, hO, sh⟩
 refine D5 (ge (ge (be (gn (have hk := lx hx1 hk; Bs (pM (.ptr _ _) ?_))))))
 replace hO := (A4.pick hO [4, 0, 1, 2, 3] (by decide) rfl : A4 H1 G ([AI S0 Fp3 x17 [vp3]] ++ [.AW b2 (.cells 5 (DG l1 0 l2 0 l3 0 l4 0 l5 0 aW0)), .Cs S0 q0 (.cells 4 [.bool aF1.Ok, vp1, vp2, vp3]), AI S0 Fp1 aF1.B1 [vp1], AI S0 Fp2 aF1.A1 [vp2]]))
 refine bk hk fun z33 hz33 hk => Zw (rs0 := [AI S0 Fp3 x17 [vp3]]) (rs1 := fun (Fs34 : List Nat) => [AI S0 Fs34 z33 [vp3]]) (rest := [.AW b2 (.cells 5 (DG l1 0 l2 0 l3 0 l4 0 l5 0 aW0)), .Cs S0 q0 (.cells 4 [.bool aF1.Ok, vp1, vp2, vp3]), AI S0 Fp1 aF1.B1 [vp1], AI S0 Fp2 aF1.A1 [vp2]]) (S := (Fp3 ++ [])) hO hFr hS hlo (IK rfl) (GY rfl) (JU rfl Xg) (fun hl1 hlt1 hun1 ho1 => SZ hz33 hv19 ho1 hun1 hlt1 hl1) (fun _ => (JU rfl Xg)) (fun Fs34 H1 G hFr hO => pE ?_)
 replace hk := av hk; subst hk; exact Sj (Fp1, Fp2, Fs34) (pk hO [2, 3, 4, 0]) hFr (FI (UI hq) (FI Gr (FI Gr (FI Gr TD)))) rfl rfl rfl rfl (by first | exact Or.inl rfl | exact Or.inr rfl)
def Ml (x9 : Int) (x10 : Bool) (x11 : List Bool) (x13 : List AZ) (x15 : List AD) : Option ((Bool × (List Bool) × (List AZ) × (List AD) × Int) ⊕ Frame) :=
 some (.inl (x10, x11, x13, x15, BE (x9 + 1)))
def PK (x2 : Bool) (x3 : List Bool) (x5 : List AZ) (x9 : Int) (c19 : CA) (x29 : List AD) (c31 : AD) : Option ((Bool × (List Bool) × (List AZ) × (List AD) × Int) ⊕ Frame) :=
 (bif (c31.State == 4) then ((nQ c19 ({ Ok := x2, B1 := x3, A1 := x5, A3 := x29 } : Frame) x9).bind fun z33 => (Ml x9 z33.Ok z33.B1 z33.A1 z33.A3)) else (Ml x9 x2 x3 x5 x29))
def PJ (aP0 : AT) (x2 : Bool) (x3 : List Bool) (x5 : List AZ) (x9 : Int) (c19 : CA) (x23 : List AD) (c25 : AD) : Option ((Bool × (List Bool) × (List AZ) × (List AD) × Int) ⊕ Frame) :=
 (bif ((c25.State == 1) || (c25.State == 2)) then ((nP aP0 ({ Ok := x2, B1 := x3, A1 := x5, A3 := x23.set x9.toNat ({ c25 with State := (1:Int) }) } : Frame) x9).bind fun v36 => (bif v36 then (PK x2 x3 x5 x9 c19 (((x23.set x9.toNat ({ c25 with State := (1:Int) })).set x9.toNat ({ ({ c25 with State := (1:Int) } : AD) with State := (2:Int) })).set x9.toNat ({ ({ ({ c25 with State := (1:Int) } : AD) with State := (2:Int) } : AD) with Shown := true })) ({ ({ ({ c25 with State := (1:Int) } : AD) with State := (2:Int) } : AD) with Shown := true } : AD)) else (PK x2 x3 x5 x9 c19 (x23.set x9.toNat ({ c25 with State := (1:Int) })) ({ c25 with State := (1:Int) } : AD)))) else (PK x2 x3 x5 x9 c19 x23 c25))
def PI (aP0 : AT) (aF1 : Frame) : (Bool × (List Bool) × (List AZ) × (List AD) × Int) → Option ((Bool × (List Bool) × (List AZ) × (List AD) × Int) ⊕ Frame) := fun s =>
 (bif decide (s.2.2.2.2 < (aF1.A3.length : Int)) then ((AH s.2.2.2.1 s.2.2.2.2).bind fun c17 => ((AH aP0.A3 s.2.2.2.2).bind fun c19 => (bif (c17.State == 0) then (Ml s.2.2.2.2 s.1 s.2.1 s.2.2.1 s.2.2.2.1) else ((bif (c17.State != 4) then ((AH c19.A0 (0:Int)).bind fun c43 => ((AH s.2.1 c43).bind fun c44 => some c44)) else some false).bind fun t42 => (bif t42 then (PJ aP0 s.1 s.2.1 s.2.2.1 s.2.2.2.2 c19 ((s.2.2.2.1.set s.2.2.2.2.toNat ({ c17 with State := (4:Int) })).set s.2.2.2.2.toNat ({ ({ c17 with State := (4:Int) } : AD) with Timer := (0:Int) })) ({ ({ c17 with State := (4:Int) } : AD) with Timer := (0:Int) } : AD)) else (PJ aP0 s.1 s.2.1 s.2.2.1 s.2.2.2.2 c19 s.2.2.2.1 c17)))))) else ((some ({ Ok := s.1, B1 := s.2.1, A1 := s.2.2.1, A3 := s.2.2.2.1 } : Frame)).map Sum.inr))
def YI (aP0 : AT) (aF1 : Frame) : Option Frame :=
 (AG (PI aP0 aF1) (aF1.Ok, aF1.B1, aF1.A1, aF1.A3, (0:Int)))
theorem WS (hk : YI aP0 aF1 = some r) (hO : A4 H H [.Cs S0 q0 (.cells 4 [.bool aF1.Ok, vp1, vp2, vp3]), AI S0 Fp1 aF1.B1 [vp1], AI S0 Fp2 aF1.A1 [vp2], AI S0 Fp3 aF1.A3 [vp3]]) (hS : ∀ b ∈ S0, AX lk b = true) (hlt : ∀ b ∈ S0, b < H.length) (hlo : EE lk H.length) (hlk : 0 < lk.length := by simp) : ∃ v H1, Am ai hh 66 [.agg (AY l1 0 l2 m3 l4 m5 aP0), .ptr q0 0] H lk = some (v, H1) ∧ v = .GS [] ∧ ∃ (Fs : List Nat × List Nat × List Nat) (Hm : A6), Bu H Hm (S0) ∧ A4 Hm H1 [.Cs S0 q0 (.cells 4 [.bool r.Ok, vp1, vp2, vp3]), AI S0 Fs.1 r.B1 [vp1], AI S0 Fs.2.1 r.A1 [vp2], AI S0 Fs.2.2 r.A3 [vp3]] := by
 refine B0 Tryz.func66 rfl Tryz.ntmps66 Tryz.results66 rfl rfl ?_
 have hFr := Bu.refl H (S0)
 unfold YI at hk
 have hq := (ak.1 (hO.VD (k := 0) rfl).1).1
 refine sr (BR (cs := [_, _, _, _, _]) hO C0 (fun b1 G hO => pg (sr ?_)))
 refine pM (.ptr _ _) ?_
 refine C4 ?_
 refine pF BT ?_
 refine Wm hO 1 vp3 DZ ?_
 refine K9 hO 4 Hk ?_
 refine pM (.int _ _) (pg (BO ?_))
 refine A9 (F := PI aP0 aF1) (fun s S' => ∃ F4 F6 F8 J G H1, Bu H H1 S0 ∧ A4 H1 G [.AW b1 (.cells 5 (AY l1 0 l2 m3 l4 m5 aP0)), .Cs S0 q0 (.cells 4 [.bool s.1, vp1, vp2, vp3]), AI S0 F4 s.2.1 [vp1], AI S0 F6 s.2.2.1 [vp2], AI S0 F8 s.2.2.2.1 [vp3]] ∧ S' = ⟨CM [(1, .ptr q0 0),(2, .ptr b1 0),(11, iv (aF1.A3.length : Int)),(12, iv s.2.2.2.2)] J, G⟩) hk ⟨Fp1, Fp2, Fp3, _, _, _, hFr, hO, sh⟩ ?_
 rintro ⟨x2, x3, x5, x7, x9⟩ _ y1 ⟨F4, F6, F8, J, G, H1, hFr, hO, rfl⟩ hk hx1
 refine sr (AO (pg (AV (Ak hk ?_ ?_)))) <;> intro hk
 ·refine Ao (gn (By (fun S' => ∃ x10 x11 x13 x15 F12 F14 F16 J G H1, Ml x9 x10 x11 x13 x15 = some y1 ∧ Bu H H1 S0 ∧ A4 H1 G [.AW b1 (.cells 5 (AY l1 0 l2 m3 l4 m5 aP0)), .Cs S0 q0 (.cells 4 [.bool x10, vp1, vp2, vp3]), AI S0 F12 x11 [vp1], AI S0 F14 x13 [vp2], AI S0 F16 x15 [vp3]] ∧ S' = ⟨CM [(1, .ptr q0 0),(2, .ptr b1 0),(11, iv (aF1.A3.length : Int)),(12, iv x9)] J, G⟩) ?_ ?_))
  ·refine BO (sr (pM (.int _ _) ?_))
   refine pA (.int _ _) (pg (sr ?_))
   refine pM (.ptr _ _) ?_
   refine C4 ?_
   refine pF BT ?_
   refine Wm hO 1 vp3 DZ ?_
   refine pM (.int _ _) (bk hk fun c17 hc17 hk => ?_)
   refine HZ hO 4 hc17 Da Av (fun b18 hb18 => ?_)
   refine pA (.ptr _ _) (pg (sr ?_))
   refine Ad BY hO 0 (.lit _ _ _) Df ?_
   refine pM (.int _ _) (bk hk fun c19 hc19 hk => ?_)
   refine pX hc19 EY Ay ?_
   refine Bq (.agg [_, _, _, _, _]) (GC (lm := m3) (off := 0) hc19 Ec Ay) (C9 hO Ay Il (fun b20 G hO => ?_))
   refine Cg (xs := [_, _, _, _, _]) hO 0 Ay hFr.1.symm (fun G hO => pg (AV (sr ?_)))
   refine pM (.ptr _ _) ?_
   refine C4 ?_
   refine pF Az ?_
   refine EV Al (.int _ _) hO 5 hb18 hc17 B3 ?_
   refine AO (pg (Ak hk ?_ ?_)) <;> intro hk
   ·exact D5 (ge (be (gn (⟨x2, x3, x5, x7, F4, F6, F8, _, _, _, hk, hFr, (pk hO [1, 2, 3, 4, 5]), sh⟩))))
   refine Ao (gn (By (fun S' => ∃ x23 c25 F21 F22 F24 J G H1, PJ aP0 x2 x3 x5 x9 c19 x23 c25 = some y1 ∧ AH x23 x9 = some c25 ∧ vp3 = .sl b18 0 x23.length ∧ Bu H H1 S0 ∧ A4 H1 G [.AW b20 (.cells 5 (DG m3 0 m3 0 m3 0 m3 0 m3 0 c19)), .AW b1 (.cells 5 (AY l1 0 l2 m3 l4 m5 aP0)), .Cs S0 q0 (.cells 4 [.bool x2, vp1, vp2, vp3]), AI S0 F21 x3 [vp1], AI S0 F22 x5 [vp2], AI S0 F24 x23 [vp3]] ∧ S' = ⟨CM [(1, .ptr q0 0),(2, .ptr b1 0),(4, iv x9),(5, .ptr b18 (x9.toNat * 5)),(6, .ptr b20 0),(11, iv (aF1.A3.length : Int)),(12, iv x9)] J, G⟩) ?_ ?_))
   ·refine AV (HY [0,2,4,7,8,10,13,15,17,19,21,23,25,27,28,31,32] [_,_,_,_,_,_,_,_,_,_,_,_,_,_,_,_,_] ?_)
    refine pM (.ptr _ _) ?_
    refine C4 ?_
    refine pF Az ?_
    refine EV Al (.int _ _) hO 5 hb18 hc17 B3 ?_
    refine AO ?_
    refine pM (.bool _) (bk hk fun t42 ht hk => ?_)
    refine AP (l1 := [_, _, _, _, _, _, _, _, _, _, _]) [37, 38, 39, 40, 41, 42, 43, 44, 45, 46, 47] 47 (.bool t42) ?_ ?_
    ·refine bc (b := (c17.State != 4)) ?_ ?_ <;> intro hg
     ·replace hk := ct hg ht
      refine AA hg (pM (.ptr _ _) (AA hg ?_))
      refine C4 (AA hg ?_)
      refine pF CP (AA hg ?_)
      refine Wm hO 2 vp1 C5 (AA hg ?_)
      refine pF BS (AA hg ?_)
      refine CT hO 0 (.lit _ _ _) BN (AA hg (bk hk fun c43 hc43 hk => ?_))
      refine pX hc43 CG DB (AA hg ?_)
      refine Bq (.int _ _) (Cu (lm := 0) (off := 0) hc43 B3) (AA hg (bk hk fun c44 hc44 hk => ?_))
      refine HZ hO 3 hc44 Cd Eu (fun b45 hb45 => AA hg ?_)
      refine EV (Br.all (α := Bool)) (.bool _) hO 3 hb45 hc44 Fu ?_
      refine Cm hg (.bool _) ?_
      cases hk; exact pE ek
     replace hk := cf hg ht
     repeat refine Bg hg ?_
     refine Cl hg (.bool _) ?_
     cases hk; exact pE ek
    intro J
    refine pg (Ak hk ?_ ?_) <;> intro hk
    ·refine sr (pM (.ptr _ _) ?_)
     refine C4 ?_
     refine pF Az ?_
     refine Kb Al (y' := (4:Int)) hO 5 hb18 hc17 DB (fun _ => ⟨rfl, rfl⟩) hFr hS rfl (fun H1 G hFr hO => ?_)
     have hc_46 := B2 hc17 ({ c17 with State := (4:Int) } : AD)
     have hv_46 := Bn (j := x9.toNat) (y := ({ c17 with State := (4:Int) } : AD)) hb18
     refine pg (Bs (pM (.ptr _ _) ?_))
     refine C4 ?_
     refine pF Ce ?_
     refine Kb CE (y' := (0:Int)) hO 5 hv_46 hc_46 DB (fun _ => ⟨rfl, rfl⟩) hFr hS rfl (fun H1 G hFr hO => ?_)
     have hc_47 := B2 hc_46 ({ ({ c17 with State := (4:Int) } : AD) with Timer := (0:Int) } : AD)
     have hv_47 := Bn (j := x9.toNat) (y := ({ ({ c17 with State := (4:Int) } : AD) with Timer := (0:Int) } : AD)) hv_46
     exact pg (⟨(x7.set x9.toNat ({ c17 with State := (4:Int) })).set x9.toNat ({ ({ c17 with State := (4:Int) } : AD) with Timer := (0:Int) }), ({ ({ c17 with State := (4:Int) } : AD) with Timer := (0:Int) } : AD), F4, F6, F8, _, _, _, hk, hc_47, hv_47, hFr, hO, sh⟩)
    exact Ao (gn (⟨x7, c17, F4, F6, F8, _, _, _, hk, hc17, hb18, hFr, hO, sh⟩))
   rintro _ ⟨x23, c25, F21, F22, F24, J, G, H1, hk, hc25, hv26, hFr, hO, rfl⟩
   refine By (fun S' => ∃ x29 c31 F27 F28 F30 J G H1, PK x2 x3 x5 x9 c19 x29 c31 = some y1 ∧ AH x29 x9 = some c31 ∧ vp3 = .sl b18 0 x29.length ∧ Bu H H1 S0 ∧ A4 H1 G [.AW b20 (.cells 5 (DG m3 0 m3 0 m3 0 m3 0 m3 0 c19)), .AW b1 (.cells 5 (AY l1 0 l2 m3 l4 m5 aP0)), .Cs S0 q0 (.cells 4 [.bool x2, vp1, vp2, vp3]), AI S0 F27 x3 [vp1], AI S0 F28 x5 [vp2], AI S0 F30 x29 [vp3]] ∧ S' = ⟨CM [(1, .ptr q0 0),(2, .ptr b1 0),(5, .ptr b18 (x9.toNat * 5)),(6, .ptr b20 0),(11, iv (aF1.A3.length : Int)),(12, iv x9)] J, G⟩) ?_ ?_
   ·refine sr (pM (.ptr _ _) ?_)
    refine C4 ?_
    refine pF Az ?_
    refine EV Al (.int _ _) hO 5 hv26 hc25 B3 ?_
    refine AO ?_
    refine pM (.bool _) ?_
    refine AP (l1 := [_, _, _, _, _, _]) [60, 61, 62, 63, 64, 65] 65 (.bool ((c25.State == 1) || (c25.State == 2))) ?_ ?_
    ·refine bc (b := (c25.State == 1)) ?_ ?_ <;> intro hg
     ·repeat refine Bg hg ?_
      refine Cm hg (.bool _) ?_
      exact pE (ek (by rw [hg]; rfl))
     refine AA hg (pM (.ptr _ _) (AA hg ?_))
     refine C4 (AA hg ?_)
     refine pF Az (AA hg ?_)
     refine EV Al (.int _ _) hO 5 hv26 hc25 B3 (AA hg ?_)
     refine AO ?_
     refine Cl hg (.bool _) ?_
     exact pE (ek (by rw [hg]; rfl))
    intro J
    refine pg (Ak hk ?_ ?_) <;> intro hk
    ·refine sr (pM (.ptr _ _) ?_)
     refine C4 ?_
     refine pF Az ?_
     refine Kb Al (y' := (1:Int)) hO 5 hv26 hc25 DB (fun _ => ⟨rfl, rfl⟩) hFr hS rfl (fun H1 G hFr hO => ?_)
     have hc_35 := B2 hc25 ({ c25 with State := (1:Int) } : AD)
     have hv_35 := Bn (j := x9.toNat) (y := ({ c25 with State := (1:Int) } : AD)) hv26
     refine pg (AV (HY [1,3,5,7,9,10] [_,_,_,_,_,_] ?_))
     refine D9 hO 1 [_, _, _, _, _] EP C0 ?_
     refine pM (.ptr _ _) ?_
     refine C4 ?_
     refine oG hO 2 DT BZ ?_
     refine pM (.int _ _) (bk hk fun v36 hv36 hk => ?_)
     obtain ⟨_, hm37⟩ := Nh hO (j := 5) rfl (lk.length + 1) 7
     obtain ⟨_, hm38⟩ := G3 hO (j := 4) rfl (lk.length + 1) 7
     obtain ⟨_, hm39⟩ := G3 hO (j := 3) rfl (lk.length + 1) 7
     refine AM (vs := [(.agg [_, _, _, _, _]), (.agg [_, _, _, _]), (.int _ _)]) (caps := []) (fun _ => eE hv36) ?_ (h3 := (B9 rfl (B9 (L9 (CB rfl (CB hm39 (CB hm38 (CB hm37 LA))))) (B9 rfl EB))))
     refine pg (Ak hk ?_ ?_) <;> intro hk
     ·refine sr (pM (.ptr _ _) ?_)
      refine C4 ?_
      refine pF Az ?_
      refine Kb Al (y' := (2:Int)) hO 5 hv_35 hc_35 DB (fun _ => ⟨rfl, rfl⟩) hFr hS rfl (fun H1 G hFr hO => ?_)
      have hc_40 := B2 hc_35 ({ ({ c25 with State := (1:Int) } : AD) with State := (2:Int) } : AD)
      have hv_40 := Bn (j := x9.toNat) (y := ({ ({ c25 with State := (1:Int) } : AD) with State := (2:Int) } : AD)) hv_35
      refine pg (Bs (pM (.ptr _ _) ?_))
      refine C4 ?_
      refine pF DW ?_
      refine Kb Ei (y' := true) hO 5 hv_40 hc_40 Eu (fun _ => ⟨rfl, rfl⟩) hFr hS rfl (fun H1 G hFr hO => ?_)
      have hc_41 := B2 hc_40 ({ ({ ({ c25 with State := (1:Int) } : AD) with State := (2:Int) } : AD) with Shown := true } : AD)
      have hv_41 := Bn (j := x9.toNat) (y := ({ ({ ({ c25 with State := (1:Int) } : AD) with State := (2:Int) } : AD) with Shown := true } : AD)) hv_40
      exact pg (⟨((x23.set x9.toNat ({ c25 with State := (1:Int) })).set x9.toNat ({ ({ c25 with State := (1:Int) } : AD) with State := (2:Int) })).set x9.toNat ({ ({ ({ c25 with State := (1:Int) } : AD) with State := (2:Int) } : AD) with Shown := true }), ({ ({ ({ c25 with State := (1:Int) } : AD) with State := (2:Int) } : AD) with Shown := true } : AD), F21, F22, F24, _, _, _, hk, hc_41, hv_41, hFr, hO, sh⟩)
     exact Ao (gn (⟨x23.set x9.toNat ({ c25 with State := (1:Int) }), ({ c25 with State := (1:Int) } : AD), F21, F22, F24, _, _, _, hk, hc_35, hv_35, hFr, hO, sh⟩))
    exact Ao (gn (⟨x23, c25, F21, F22, F24, _, _, _, hk, hc25, hv26, hFr, hO, sh⟩))
   rintro _ ⟨x29, c31, F27, F28, F30, J, G, H1, hk, hc31, hv32, hFr, hO, rfl⟩
   refine sr (pM (.ptr _ _) ?_)
   refine C4 ?_
   refine pF Az ?_
   refine EV Al (.int _ _) hO 5 hv32 hc31 B3 ?_
   refine AO (pg (Ak hk ?_ ?_)) <;> intro hk
   ·refine Bs (D9 hO 0 [_, _, _, _, _] Ec Ay ?_)
    refine pM (.ptr _ _) ?_
    refine pM (.ptr _ _) ?_
    replace hO := (A4.pick hO [2, 3, 4, 5, 0, 1] (by decide) rfl : A4 H1 G ([.Cs S0 q0 (.cells 4 [.bool x2, vp1, vp2, vp3]), AI S0 F27 x3 [vp1], AI S0 F28 x5 [vp2], AI S0 F30 x29 [vp3]] ++ [.AW b20 (.cells 5 (DG m3 0 m3 0 m3 0 m3 0 m3 0 c19)), .AW b1 (.cells 5 (AY l1 0 l2 m3 l4 m5 aP0))]))
    refine bk hk fun z33 hz33 hk => Zw (rs0 := [.Cs S0 q0 (.cells 4 [.bool x2, vp1, vp2, vp3]), AI S0 F27 x3 [vp1], AI S0 F28 x5 [vp2], AI S0 F30 x29 [vp3]]) (rs1 := fun (Fs34 : List Nat × List Nat × List Nat) => [.Cs S0 q0 (.cells 4 [.bool z33.Ok, vp1, vp2, vp3]), AI S0 Fs34.1 z33.B1 [vp1], AI S0 Fs34.2.1 z33.A1 [vp2], AI S0 Fs34.2.2 z33.A3 [vp3]]) (rest := [.AW b20 (.cells 5 (DG m3 0 m3 0 m3 0 m3 0 m3 0 c19)), .AW b1 (.cells 5 (AY l1 0 l2 m3 l4 m5 aP0))]) (S := (q0 :: (F27 ++ (F28 ++ (F30 ++ []))))) hO hFr hS hlo (IK rfl) (GY rfl) (JU rfl (JU rfl (JU rfl (JU rfl Xg)))) (fun hl1 hlt1 hun1 ho1 => eF hz33 hv32 ho1 hun1 hlt1 hl1) (fun _ => (JU rfl (JU rfl (JU rfl (JU rfl Xg))))) (fun Fs34 H1 G hFr hO => pE (bn (gn ?_)))
    exact ⟨z33.Ok, z33.B1, z33.A1, z33.A3, Fs34.1, Fs34.2.1, Fs34.2.2, _, _, _, hk, hFr, (pk hO [5, 0, 1, 2, 3]), sh⟩
   exact Ao (bn (gn (⟨x2, x3, x5, x29, F27, F28, F30, _, _, _, hk, hFr, (pk hO [1, 2, 3, 4, 5]), sh⟩)))
  rintro _ ⟨x10, x11, x13, x15, F12, F14, F16, J, G, H1, hk, hFr, hO, rfl⟩
  refine Bs (AO ?_)
  refine pM (.int _ _) (pg ?_)
  cases hk; exact ⟨_, rfl, F12, F14, F16, _, _, _, hFr, hO, sh⟩
 refine D5 (ge (ge (be (have hk := lx hx1 hk; ?_))))
 replace hk := av hk; subst hk; exact Sj (F4, F6, F8) (pk hO [1, 2, 3, 4]) hFr (FI (UI hq) (FI Gr (FI Gr (FI Gr TD)))) rfl rfl rfl rfl (by first | exact Or.inl rfl | exact Or.inr rfl)
end
end Go.Proofs.YtphpkphklegfeaaGreat.K
