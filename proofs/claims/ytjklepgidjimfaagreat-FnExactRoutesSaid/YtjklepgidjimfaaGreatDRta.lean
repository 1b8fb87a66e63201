/-
 Part of a proof. No conditions.
-/
import Derived.Test.YtjklepgidjimfaaGreatK3
import Derived.Test.YtjklepgidjimfaaGreatProg
set_option linter.unusedVariables false
set_option linter.unusedSimpArgs false
set_option maxRecDepth 100000
set_option autoImplicit true
set_option relaxedAutoImplicit true
set_option maxHeartbeats 1000000
namespace Go.Proofs.YtjklepgidjimfaaGreat.K
open Nat renaming beq → gp, ble → jn, le_of_lt → kf, le_sub_one_of_lt → ej
open List renaming length_append → dw, all_append → gk, replicate → gf, length_replicate → mh
open _root_.Go.Proofs.Tryz renaming prog → dp
open Option.some renaming inj → dv
noncomputable section
variable {H : A5} {lk : Lk}
def hh : BX := { Df := fun k => bif gp k 17 || gp k 18 || gp k 19 || gp k 54 || gp k 55 || gp k 57 || gp k 58 || gp k 59 || gp k 60 || gp k 61 || gp k 132 then [.exact] else (bif gp k 181 then [.J1, .O2 7 true] else (bif gp k 119 then [.J1, .O2 6 true, .J1] else (bif gp k 112 then [.J1, .O2 7 true] else (bif gp k 108 then [.O2 6 false] else (bif gp k 49 then [.exact] else (bif gp k 43 then [.J1, .O2 6 false, .J1, .J1, .J1] else [])))))), Ti := fun k => gp k 11 || gp k 12 || gp k 13 || gp k 45 || gp k 46 || gp k 48 || gp k 118 || gp k 177, grow := fun k => gp k 43 || gp k 49 || gp k 108 || gp k 112 || gp k 116 || gp k 119 || gp k 121 || gp k 122 || gp k 123 || gp k 124 || gp k 125 || gp k 176 || gp k 181 || gp k 266, Ih := fun k => gp k 46, XE := fun k => gp k 119, iO := fun k => gp k 112 || gp k 181 }
structure A1 where
 Name : ByteArray
 Bo : Int
 Cc : Int
 DM : Int
instance : AF A1 := ⟨4, by decide, fun l x => AF.BD l x.Name ++ (AF.BD l x.Bo ++ (AF.BD l x.Cc ++ (AF.BD l x.DM))), fun x => by simp only [dw, AF.len]; rfl, fun x h => by simp only [Bc, AF.Ej _ h]; rfl, fun x => by simp only [gk, AF.cell]; rfl⟩
instance : Az A1 := Az.via (fun x => (x.Name, x.Bo, x.Cc, x.DM) : A1 → ByteArray × Int × Int × Int) rfl fun _ _ => rfl
instance : Cq A1 := ⟨fun G x => Cq.fl (α := ByteArray × Int × Int × Int) G (x.Name, x.Bo, x.Cc, x.DM), fun l x => Cq.Z6 (α := ByteArray × Int × Int × Int) l (x.Name, x.Bo, x.Cc, x.DM), Cq.pos (α := ByteArray × Int × Int × Int)⟩
theorem Q7 : BM A1 ByteArray (fun x => x.Name) (fun x y => { x with Name := y }) 0 := BM.via (α := A1) (f := (fun x => (x.Name, x.Bo, x.Cc, x.DM) : A1 → ByteArray × Int × Int × Int)) (hz := rfl) (he := fun _ _ => rfl) (BM.fst) fun _ _ => rfl
theorem RK : BM A1 Int (fun x => x.Bo) (fun x y => { x with Bo := y }) 1 := BM.via (α := A1) (f := (fun x => (x.Name, x.Bo, x.Cc, x.DM) : A1 → ByteArray × Int × Int × Int)) (hz := rfl) (he := fun _ _ => rfl) (BM.comp BM.snd (BM.fst)) fun _ _ => rfl
theorem Nw : BM A1 Int (fun x => x.Cc) (fun x y => { x with Cc := y }) 2 := BM.via (α := A1) (f := (fun x => (x.Name, x.Bo, x.Cc, x.DM) : A1 → ByteArray × Int × Int × Int)) (hz := rfl) (he := fun _ _ => rfl) (BM.comp BM.snd (BM.comp BM.snd (BM.fst))) fun _ _ => rfl
theorem Nv : BM A1 Int (fun x => x.DM) (fun x y => { x with DM := y }) 3 := BM.via (α := A1) (f := (fun x => (x.Name, x.Bo, x.Cc, x.DM) : A1 → ByteArray × Int × Int × Int)) (hz := rfl) (he := fun _ _ => rfl) (BM.comp BM.snd (BM.comp BM.snd (BM.snd))) fun _ _ => rfl
structure Ac where
 A1 : Int
 BI : Int
 deriving DecidableEq
instance : AF Ac := ⟨2, by decide, fun l x => AF.BD l x.A1 ++ (AF.BD l x.BI), fun x => by simp only [dw, AF.len]; rfl, fun x h => by simp only [Bc, AF.Ej _ h]; rfl, fun x => by simp only [gk, AF.cell]; rfl⟩
instance : Az Ac := Az.via (fun x => (x.A1, x.BI) : Ac → Int × Int) rfl fun _ _ => rfl
instance : Cq Ac := ⟨fun G x => Cq.fl (α := Int × Int) G (x.A1, x.BI), fun l x => Cq.Z6 (α := Int × Int) l (x.A1, x.BI), Cq.pos (α := Int × Int)⟩
theorem RG : BM Ac Int (fun x => x.A1) (fun x y => { x with A1 := y }) 0 := BM.via (α := Ac) (f := (fun x => (x.A1, x.BI) : Ac → Int × Int)) (hz := rfl) (he := fun _ _ => rfl) (BM.fst) fun _ _ => rfl
theorem T5 : BM Ac Int (fun x => x.BI) (fun x y => { x with BI := y }) 1 := BM.via (α := Ac) (f := (fun x => (x.A1, x.BI) : Ac → Int × Int)) (hz := rfl) (he := fun _ _ => rfl) (BM.snd) fun _ _ => rfl
instance : GR Ac := ⟨fun x => .agg ((AF.BD 0) x), fun _ => rfl⟩
theorem KP : Jm (.many [.i, .i]) Ac := fun a b => by
 have h : EM (.many [.i, .i]) (GR.pv a) (GR.pv b) = some ((a.A1 == b.A1) && ((a.BI == b.BI) && (true))) := by
  show (if ((AF.BD 0) a).length = 2 ∧ ((AF.BD 0) b).length = 2 then DC _ ((AF.BD 0) a) ((AF.BD 0) b) else none) = _
  rw [ru ⟨AF.len a, AF.len b⟩]
  exact Tp (Tq _ _ _) (Tp (Tq _ _ _) (rfl))
 rw [h]
 congr 1
 cases a; cases b
 rw [Bool.eq_iff_iff]
 simp
structure AG where
 Kind : Int
 Name : ByteArray
 Ends : List Ac
instance : AF AG := ⟨3, by decide, fun l x => AF.BD l x.Kind ++ (AF.BD l x.Name ++ (AF.BD l x.Ends)), fun x => by simp only [dw, AF.len]; rfl, fun x h => by simp only [Bc, AF.Ej _ h]; rfl, fun x => by simp only [gk, AF.cell]; rfl⟩
instance : Az AG := Az.via (fun x => (x.Kind, x.Name, x.Ends) : AG → Int × ByteArray × List Ac) rfl fun _ _ => rfl
theorem Q2 : BM AG Int (fun x => x.Kind) (fun x y => { x with Kind := y }) 0 := BM.via (α := AG) (f := (fun x => (x.Kind, x.Name, x.Ends) : AG → Int × ByteArray × List Ac)) (hz := rfl) (he := fun _ _ => rfl) (BM.fst) fun _ _ => rfl
theorem Q3 : BM AG ByteArray (fun x => x.Name) (fun x y => { x with Name := y }) 1 := BM.via (α := AG) (f := (fun x => (x.Kind, x.Name, x.Ends) : AG → Int × ByteArray × List Ac)) (hz := rfl) (he := fun _ _ => rfl) (BM.comp BM.snd (BM.fst)) fun _ _ => rfl
theorem Q1 : BM AG (List Ac) (fun x => x.Ends) (fun x y => { x with Ends := y }) 2 := BM.via (α := AG) (f := (fun x => (x.Kind, x.Name, x.Ends) : AG → Int × ByteArray × List Ac)) (hz := rfl) (he := fun _ _ => rfl) (BM.comp BM.snd (BM.snd)) fun _ _ => rfl
instance : VR AG := ⟨fun x h a b c d => VR.prom (α := Int × ByteArray × List Ac) (x.Kind, x.Name, x.Ends) h a b c d⟩
theorem eR {H : A5} {d n : Nat} {rs rs1 : List B8} {cs : List V} {x : AG} (h : RB n H d rs cs (x.Kind, x.Name, x.Ends) rs1) : RB n H d rs cs x rs1 := h
theorem qV {H G : A5} {rs : List B8} {S F : List Nat} {x : AG} {cs : List V} {j : Nat} (hO : A6 H G rs) (hj : rs[j]? = some (Dl S F x cs)) (lv n : Nat) (hn : jn (Az.dep AG) n = true := by rfl) : ∃ M, Al lv G (n + 1) (.agg cs) = some (.agg [.int .i64 x.Kind, .str x.Name, A0 lv 0 x.Ends], M) := by
 have h := Qa hO hj lv n hn
 have e : AF.BD lv x = [.int .i64 x.Kind, .str x.Name, A0 lv 0 x.Ends] := by
  show ([.int .i64 x.Kind, .str x.Name, A0 lv lv x.Ends] : List V) = _
  simp only [A0, JK]
 rwa [e] at h
structure Bq where
 A3 : List A1
 A4 : List AG
instance : AF Bq := ⟨2, by decide, fun l x => AF.BD l x.A3 ++ (AF.BD l x.A4), fun x => by simp only [dw, AF.len]; rfl, fun x h => by simp only [Bc, AF.Ej _ h]; rfl, fun x => by simp only [gk, AF.cell]; rfl⟩
instance : Az Bq := Az.via (fun x => (x.A3, x.A4) : Bq → (List A1) × List AG) rfl fun _ _ => rfl
theorem Q5 : BM Bq (List A1) (fun x => x.A3) (fun x y => { x with A3 := y }) 0 := BM.via (α := Bq) (f := (fun x => (x.A3, x.A4) : Bq → (List A1) × List AG)) (hz := rfl) (he := fun _ _ => rfl) (BM.fst) fun _ _ => rfl
theorem Q4 : BM Bq (List AG) (fun x => x.A4) (fun x y => { x with A4 := y }) 1 := BM.via (α := Bq) (f := (fun x => (x.A3, x.A4) : Bq → (List A1) × List AG)) (hz := rfl) (he := fun _ _ => rfl) (BM.snd) fun _ _ => rfl
theorem nP {H : A5} {d n : Nat} {rs rs1 : List B8} {cs : List V} {x : Bq} (h : RB n H d rs cs (x.A3, x.A4) rs1) : RB n H d rs cs x rs1 := h
theorem Qe {H G : A5} {rs : List B8} {S F : List Nat} {x : Bq} {cs : List V} {j : Nat} (hO : A6 H G rs) (hj : rs[j]? = some (Dl S F x cs)) (lv n : Nat) (hn : jn (Az.dep Bq) n = true := by rfl) : ∃ M, Al lv G (n + 1) (.agg cs) = some (.agg [A0 lv 0 x.A3, A0 lv lv x.A4], M) := by
 have h := Qa hO hj lv n hn
 have e : AF.BD lv x = [A0 lv 0 x.A3, A0 lv lv x.A4] := by
  show ([A0 lv lv x.A3, A0 lv lv x.A4] : List V) = _
  simp only [A0, JK]
 rwa [e] at h
structure AI where
 Name : ByteArray
 A1 : Int
 At : Int
 Way : Int
instance : AF AI := ⟨4, by decide, fun l x => AF.BD l x.Name ++ (AF.BD l x.A1 ++ (AF.BD l x.At ++ (AF.BD l x.Way))), fun x => by simp only [dw, AF.len]; rfl, fun x h => by simp only [Bc, AF.Ej _ h]; rfl, fun x => by simp only [gk, AF.cell]; rfl⟩
instance : Az AI := Az.via (fun x => (x.Name, x.A1, x.At, x.Way) : AI → ByteArray × Int × Int × Int) rfl fun _ _ => rfl
instance : Cq AI := ⟨fun G x => Cq.fl (α := ByteArray × Int × Int × Int) G (x.Name, x.A1, x.At, x.Way), fun l x => Cq.Z6 (α := ByteArray × Int × Int × Int) l (x.Name, x.A1, x.At, x.Way), Cq.pos (α := ByteArray × Int × Int × Int)⟩
theorem O0 : BM AI ByteArray (fun x => x.Name) (fun x y => { x with Name := y }) 0 := BM.via (α := AI) (f := (fun x => (x.Name, x.A1, x.At, x.Way) : AI → ByteArray × Int × Int × Int)) (hz := rfl) (he := fun _ _ => rfl) (BM.fst) fun _ _ => rfl
theorem N3 : BM AI Int (fun x => x.A1) (fun x y => { x with A1 := y }) 1 := BM.via (α := AI) (f := (fun x => (x.Name, x.A1, x.At, x.Way) : AI → ByteArray × Int × Int × Int)) (hz := rfl) (he := fun _ _ => rfl) (BM.comp BM.snd (BM.fst)) fun _ _ => rfl
theorem RL : BM AI Int (fun x => x.At) (fun x y => { x with At := y }) 2 := BM.via (α := AI) (f := (fun x => (x.Name, x.A1, x.At, x.Way) : AI → ByteArray × Int × Int × Int)) (hz := rfl) (he := fun _ _ => rfl) (BM.comp BM.snd (BM.comp BM.snd (BM.fst))) fun _ _ => rfl
theorem QB : BM AI Int (fun x => x.Way) (fun x y => { x with Way := y }) 3 := BM.via (α := AI) (f := (fun x => (x.Name, x.A1, x.At, x.Way) : AI → ByteArray × Int × Int × Int)) (hz := rfl) (he := fun _ _ => rfl) (BM.comp BM.snd (BM.comp BM.snd (BM.snd))) fun _ _ => rfl
structure BR where
 A1 : Int
 Way : Int
instance : AF BR := ⟨2, by decide, fun l x => AF.BD l x.A1 ++ (AF.BD l x.Way), fun x => by simp only [dw, AF.len]; rfl, fun x h => by simp only [Bc, AF.Ej _ h]; rfl, fun x => by simp only [gk, AF.cell]; rfl⟩
instance : Az BR := Az.via (fun x => (x.A1, x.Way) : BR → Int × Int) rfl fun _ _ => rfl
instance : Cq BR := ⟨fun G x => Cq.fl (α := Int × Int) G (x.A1, x.Way), fun l x => Cq.Z6 (α := Int × Int) l (x.A1, x.Way), Cq.pos (α := Int × Int)⟩
theorem QC : BM BR Int (fun x => x.A1) (fun x y => { x with A1 := y }) 0 := BM.via (α := BR) (f := (fun x => (x.A1, x.Way) : BR → Int × Int)) (hz := rfl) (he := fun _ _ => rfl) (BM.fst) fun _ _ => rfl
theorem T9 : BM BR Int (fun x => x.Way) (fun x y => { x with Way := y }) 1 := BM.via (α := BR) (f := (fun x => (x.A1, x.Way) : BR → Int × Int)) (hz := rfl) (he := fun _ _ => rfl) (BM.snd) fun _ _ => rfl
structure BQ where
 AG : Int
 BQ : Int
instance : AF BQ := ⟨2, by decide, fun l x => AF.BD l x.AG ++ (AF.BD l x.BQ), fun x => by simp only [dw, AF.len]; rfl, fun x h => by simp only [Bc, AF.Ej _ h]; rfl, fun x => by simp only [gk, AF.cell]; rfl⟩
instance : Az BQ := Az.via (fun x => (x.AG, x.BQ) : BQ → Int × Int) rfl fun _ _ => rfl
instance : Cq BQ := ⟨fun G x => Cq.fl (α := Int × Int) G (x.AG, x.BQ), fun l x => Cq.Z6 (α := Int × Int) l (x.AG, x.BQ), Cq.pos (α := Int × Int)⟩
theorem RI : BM BQ Int (fun x => x.AG) (fun x y => { x with AG := y }) 0 := BM.via (α := BQ) (f := (fun x => (x.AG, x.BQ) : BQ → Int × Int)) (hz := rfl) (he := fun _ _ => rfl) (BM.fst) fun _ _ => rfl
theorem UU : BM BQ Int (fun x => x.BQ) (fun x y => { x with BQ := y }) 1 := BM.via (α := BQ) (f := (fun x => (x.AG, x.BQ) : BQ → Int × Int)) (hz := rfl) (he := fun _ _ => rfl) (BM.snd) fun _ _ => rfl
structure Ai where
 A1 : Int
 AY : Int
 To : Int
instance : AF Ai := ⟨3, by decide, fun l x => AF.BD l x.A1 ++ (AF.BD l x.AY ++ (AF.BD l x.To)), fun x => by simp only [dw, AF.len]; rfl, fun x h => by simp only [Bc, AF.Ej _ h]; rfl, fun x => by simp only [gk, AF.cell]; rfl⟩
instance : Az Ai := Az.via (fun x => (x.A1, x.AY, x.To) : Ai → Int × Int × Int) rfl fun _ _ => rfl
instance : Cq Ai := ⟨fun G x => Cq.fl (α := Int × Int × Int) G (x.A1, x.AY, x.To), fun l x => Cq.Z6 (α := Int × Int × Int) l (x.A1, x.AY, x.To), Cq.pos (α := Int × Int × Int)⟩
theorem Q6 : BM Ai Int (fun x => x.A1) (fun x y => { x with A1 := y }) 0 := BM.via (α := Ai) (f := (fun x => (x.A1, x.AY, x.To) : Ai → Int × Int × Int)) (hz := rfl) (he := fun _ _ => rfl) (BM.fst) fun _ _ => rfl
theorem RJ : BM Ai Int (fun x => x.AY) (fun x y => { x with AY := y }) 1 := BM.via (α := Ai) (f := (fun x => (x.A1, x.AY, x.To) : Ai → Int × Int × Int)) (hz := rfl) (he := fun _ _ => rfl) (BM.comp BM.snd (BM.fst)) fun _ _ => rfl
theorem UW : BM Ai Int (fun x => x.To) (fun x y => { x with To := y }) 2 := BM.via (α := Ai) (f := (fun x => (x.A1, x.AY, x.To) : Ai → Int × Int × Int)) (hz := rfl) (he := fun _ _ => rfl) (BM.comp BM.snd (BM.snd)) fun _ _ => rfl
structure AD where
 At : Int
 Kind : Int
 Of : Int
 BQ : Int
instance : AF AD := ⟨4, by decide, fun l x => AF.BD l x.At ++ (AF.BD l x.Kind ++ (AF.BD l x.Of ++ (AF.BD l x.BQ))), fun x => by simp only [dw, AF.len]; rfl, fun x h => by simp only [Bc, AF.Ej _ h]; rfl, fun x => by simp only [gk, AF.cell]; rfl⟩
instance : Az AD := Az.via (fun x => (x.At, x.Kind, x.Of, x.BQ) : AD → Int × Int × Int × Int) rfl fun _ _ => rfl
instance : Cq AD := ⟨fun G x => Cq.fl (α := Int × Int × Int × Int) G (x.At, x.Kind, x.Of, x.BQ), fun l x => Cq.Z6 (α := Int × Int × Int × Int) l (x.At, x.Kind, x.Of, x.BQ), Cq.pos (α := Int × Int × Int × Int)⟩
theorem T6 : BM AD Int (fun x => x.At) (fun x y => { x with At := y }) 0 := BM.via (α := AD) (f := (fun x => (x.At, x.Kind, x.Of, x.BQ) : AD → Int × Int × Int × Int)) (hz := rfl) (he := fun _ _ => rfl) (BM.fst) fun _ _ => rfl
theorem Q0 : BM AD Int (fun x => x.Kind) (fun x y => { x with Kind := y }) 1 := BM.via (α := AD) (f := (fun x => (x.At, x.Kind, x.Of, x.BQ) : AD → Int × Int × Int × Int)) (hz := rfl) (he := fun _ _ => rfl) (BM.comp BM.snd (BM.fst)) fun _ _ => rfl
theorem T7 : BM AD Int (fun x => x.Of) (fun x y => { x with Of := y }) 2 := BM.via (α := AD) (f := (fun x => (x.At, x.Kind, x.Of, x.BQ) : AD → Int × Int × Int × Int)) (hz := rfl) (he := fun _ _ => rfl) (BM.comp BM.snd (BM.comp BM.snd (BM.fst))) fun _ _ => rfl
theorem RH : BM AD Int (fun x => x.BQ) (fun x y => { x with BQ := y }) 3 := BM.via (α := AD) (f := (fun x => (x.At, x.Kind, x.Of, x.BQ) : AD → Int × Int × Int × Int)) (hz := rfl) (he := fun _ _ => rfl) (BM.comp BM.snd (BM.comp BM.snd (BM.snd))) fun _ _ => rfl
structure A8 where
 AY : Int
 To : Int
 Steps : List BR
 AK : List BQ
 A7 : List Int
 AP : List Ai
 C2 : List Ai
 Ad : List AD
instance : AF A8 := ⟨8, by decide, fun l x => AF.BD l x.AY ++ (AF.BD l x.To ++ (AF.BD l x.Steps ++ (AF.BD l x.AK ++ (AF.BD l x.A7 ++ (AF.BD l x.AP ++ (AF.BD l x.C2 ++ (AF.BD l x.Ad))))))), fun x => by simp only [dw, AF.len]; rfl, fun x h => by simp only [Bc, AF.Ej _ h]; rfl, fun x => by simp only [gk, AF.cell]; rfl⟩
instance : Az A8 := Az.via (fun x => (x.AY, x.To, x.Steps, x.AK, x.A7, x.AP, x.C2, x.Ad) : A8 → Int × Int × List BR × List BQ × List Int × List Ai × List Ai × List AD) rfl fun _ _ => rfl
theorem Q8 : BM A8 Int (fun x => x.AY) (fun x y => { x with AY := y }) 0 := BM.via (α := A8) (f := (fun x => (x.AY, x.To, x.Steps, x.AK, x.A7, x.AP, x.C2, x.Ad) : A8 → Int × Int × List BR × List BQ × List Int × List Ai × List Ai × List AD)) (hz := rfl) (he := fun _ _ => rfl) (BM.fst) fun _ _ => rfl
theorem T8 : BM A8 Int (fun x => x.To) (fun x y => { x with To := y }) 1 := BM.via (α := A8) (f := (fun x => (x.AY, x.To, x.Steps, x.AK, x.A7, x.AP, x.C2, x.Ad) : A8 → Int × Int × List BR × List BQ × List Int × List Ai × List Ai × List AD)) (hz := rfl) (he := fun _ _ => rfl) (BM.comp BM.snd (BM.fst)) fun _ _ => rfl
theorem Ny : BM A8 (List BR) (fun x => x.Steps) (fun x y => { x with Steps := y }) 2 := BM.via (α := A8) (f := (fun x => (x.AY, x.To, x.Steps, x.AK, x.A7, x.AP, x.C2, x.Ad) : A8 → Int × Int × List BR × List BQ × List Int × List Ai × List Ai × List AD)) (hz := rfl) (he := fun _ _ => rfl) (BM.comp BM.snd (BM.comp BM.snd (BM.fst))) fun _ _ => rfl
theorem Q9 : BM A8 (List BQ) (fun x => x.AK) (fun x y => { x with AK := y }) 3 := BM.via (α := A8) (f := (fun x => (x.AY, x.To, x.Steps, x.AK, x.A7, x.AP, x.C2, x.Ad) : A8 → Int × Int × List BR × List BQ × List Int × List Ai × List Ai × List AD)) (hz := rfl) (he := fun _ _ => rfl) (BM.comp BM.snd (BM.comp BM.snd (BM.comp BM.snd (BM.fst)))) fun _ _ => rfl
theorem ML : BM A8 (List Int) (fun x => x.A7) (fun x y => { x with A7 := y }) 4 := BM.via (α := A8) (f := (fun x => (x.AY, x.To, x.Steps, x.AK, x.A7, x.AP, x.C2, x.Ad) : A8 → Int × Int × List BR × List BQ × List Int × List Ai × List Ai × List AD)) (hz := rfl) (he := fun _ _ => rfl) (BM.comp BM.snd (BM.comp BM.snd (BM.comp BM.snd (BM.comp BM.snd (BM.fst))))) fun _ _ => rfl
theorem Nx : BM A8 (List Ai) (fun x => x.AP) (fun x y => { x with AP := y }) 5 := BM.via (α := A8) (f := (fun x => (x.AY, x.To, x.Steps, x.AK, x.A7, x.AP, x.C2, x.Ad) : A8 → Int × Int × List BR × List BQ × List Int × List Ai × List Ai × List AD)) (hz := rfl) (he := fun _ _ => rfl) (BM.comp BM.snd (BM.comp BM.snd (BM.comp BM.snd (BM.comp BM.snd (BM.comp BM.snd (BM.fst)))))) fun _ _ => rfl
theorem QA : BM A8 (List Ai) (fun x => x.C2) (fun x y => { x with C2 := y }) 6 := BM.via (α := A8) (f := (fun x => (x.AY, x.To, x.Steps, x.AK, x.A7, x.AP, x.C2, x.Ad) : A8 → Int × Int × List BR × List BQ × List Int × List Ai × List Ai × List AD)) (hz := rfl) (he := fun _ _ => rfl) (BM.comp BM.snd (BM.comp BM.snd (BM.comp BM.snd (BM.comp BM.snd (BM.comp BM.snd (BM.comp BM.snd (BM.fst))))))) fun _ _ => rfl
theorem N2 : BM A8 (List AD) (fun x => x.Ad) (fun x y => { x with Ad := y }) 7 := BM.via (α := A8) (f := (fun x => (x.AY, x.To, x.Steps, x.AK, x.A7, x.AP, x.C2, x.Ad) : A8 → Int × Int × List BR × List BQ × List Int × List Ai × List Ai × List AD)) (hz := rfl) (he := fun _ _ => rfl) (BM.comp BM.snd (BM.comp BM.snd (BM.comp BM.snd (BM.comp BM.snd (BM.comp BM.snd (BM.comp BM.snd (BM.snd))))))) fun _ _ => rfl
instance : VR A8 := ⟨fun x h a b c d => VR.prom (α := Int × Int × List BR × List BQ × List Int × List Ai × List Ai × List AD) (x.AY, x.To, x.Steps, x.AK, x.A7, x.AP, x.C2, x.Ad) h a b c d⟩
theorem sM {H : A5} {d n : Nat} {rs rs1 : List B8} {cs : List V} {x : A8} (h : RB n H d rs cs (x.AY, x.To, x.Steps, x.AK, x.A7, x.AP, x.C2, x.Ad) rs1) : RB n H d rs cs x rs1 := h
theorem qW {H G : A5} {rs : List B8} {S F : List Nat} {x : A8} {cs : List V} {j : Nat} (hO : A6 H G rs) (hj : rs[j]? = some (Dl S F x cs)) (lv n : Nat) (hn : jn (Az.dep A8) n = true := by rfl) : ∃ M, Al lv G (n + 1) (.agg cs) = some (.agg [.int .i64 x.AY, .int .i64 x.To, A0 lv 0 x.Steps, A0 lv 0 x.AK, A0 lv 0 x.A7, A0 lv 0 x.AP, A0 lv 0 x.C2, A0 lv 0 x.Ad], M) := by
 have h := Qa hO hj lv n hn
 have e : AF.BD lv x = [.int .i64 x.AY, .int .i64 x.To, A0 lv 0 x.Steps, A0 lv 0 x.AK, A0 lv 0 x.A7, A0 lv 0 x.AP, A0 lv 0 x.C2, A0 lv 0 x.Ad] := by
  show ([.int .i64 x.AY, .int .i64 x.To, A0 lv lv x.Steps, A0 lv lv x.AK, A0 lv lv x.A7, A0 lv lv x.AP, A0 lv lv x.C2, A0 lv lv x.Ad] : List V) = _
  simp only [A0, JK]
 rwa [e] at h
structure BW where
 Code : Int
 At : Int
instance : AF BW := ⟨2, by decide, fun l x => AF.BD l x.Code ++ (AF.BD l x.At), fun x => by simp only [dw, AF.len]; rfl, fun x h => by simp only [Bc, AF.Ej _ h]; rfl, fun x => by simp only [gk, AF.cell]; rfl⟩
instance : Az BW := Az.via (fun x => (x.Code, x.At) : BW → Int × Int) rfl fun _ _ => rfl
instance : Cq BW := ⟨fun G x => Cq.fl (α := Int × Int) G (x.Code, x.At), fun l x => Cq.Z6 (α := Int × Int) l (x.Code, x.At), Cq.pos (α := Int × Int)⟩
structure Cb where
 xN : Bq
 A9 : List AI
 Ak : Int
 BU : List A8
 An : Int
 Bk : List Ac
instance : AF Cb := ⟨7, by decide, fun l x => AF.BD l x.xN ++ (AF.BD l x.A9 ++ (AF.BD l x.Ak ++ (AF.BD l x.BU ++ (AF.BD l x.An ++ (AF.BD l x.Bk))))), fun x => by simp only [dw, AF.len]; rfl, fun x h => by simp only [Bc, AF.Ej _ h]; rfl, fun x => by simp only [gk, AF.cell]; rfl⟩
instance : Az Cb := Az.via (fun x => (x.xN, x.A9, x.Ak, x.BU, x.An, x.Bk) : Cb → Bq × List AI × Int × List A8 × Int × List Ac) rfl fun _ _ => rfl
theorem tG {H : A5} {d n : Nat} {rs rs1 : List B8} {cs : List V} {x : Cb} (h : RB n H d rs cs (x.xN, x.A9, x.Ak, x.BU, x.An, x.Bk) rs1) : RB n H d rs cs x rs1 := h
theorem sZ {H G : A5} {rs : List B8} {S F : List Nat} {x : Cb} {cs : List V} {j : Nat} (hO : A6 H G rs) (hj : rs[j]? = some (Dl S F x cs)) (lv n : Nat) (hn : jn (Az.dep Cb) n = true := by rfl) : ∃ M, Al lv G (n + 1) (.agg cs) = some (.agg [A0 lv 0 x.xN.A3, A0 lv lv x.xN.A4, A0 lv 0 x.A9, .int .i64 x.Ak, A0 lv lv x.BU, .int .i64 x.An, A0 lv 0 x.Bk], M) := by
 have h := Qa hO hj lv n hn
 have e : AF.BD lv x = [A0 lv 0 x.xN.A3, A0 lv lv x.xN.A4, A0 lv 0 x.A9, .int .i64 x.Ak, A0 lv lv x.BU, .int .i64 x.An, A0 lv 0 x.Bk] := by
  show ([A0 lv lv x.xN.A3, A0 lv lv x.xN.A4, A0 lv lv x.A9, .int .i64 x.Ak, A0 lv lv x.BU, .int .i64 x.An, A0 lv lv x.Bk] : List V) = _
  simp only [A0, JK]
 rwa [e] at h
structure Fa where
 xN : Bq
 A9 : List AI
 Ak : Int
 BU : List A8
 FA : Int
instance : AF Fa := ⟨6, by decide, fun l x => AF.BD l x.xN ++ (AF.BD l x.A9 ++ (AF.BD l x.Ak ++ (AF.BD l x.BU ++ (AF.BD l x.FA)))), fun x => by simp only [dw, AF.len]; rfl, fun x h => by simp only [Bc, AF.Ej _ h]; rfl, fun x => by simp only [gk, AF.cell]; rfl⟩
instance : Az Fa := Az.via (fun x => (x.xN, x.A9, x.Ak, x.BU, x.FA) : Fa → Bq × List AI × Int × List A8 × Int) rfl fun _ _ => rfl
theorem tH {H : A5} {d n : Nat} {rs rs1 : List B8} {cs : List V} {x : Fa} (h : RB n H d rs cs (x.xN, x.A9, x.Ak, x.BU, x.FA) rs1) : RB n H d rs cs x rs1 := h
theorem tA {H G : A5} {rs : List B8} {S F : List Nat} {x : Fa} {cs : List V} {j : Nat} (hO : A6 H G rs) (hj : rs[j]? = some (Dl S F x cs)) (lv n : Nat) (hn : jn (Az.dep Fa) n = true := by rfl) : ∃ M, Al lv G (n + 1) (.agg cs) = some (.agg [A0 lv 0 x.xN.A3, A0 lv lv x.xN.A4, A0 lv 0 x.A9, .int .i64 x.Ak, A0 lv lv x.BU, .int .i64 x.FA], M) := by
 have h := Qa hO hj lv n hn
 have e : AF.BD lv x = [A0 lv 0 x.xN.A3, A0 lv lv x.xN.A4, A0 lv 0 x.A9, .int .i64 x.Ak, A0 lv lv x.BU, .int .i64 x.FA] := by
  show ([A0 lv lv x.xN.A3, A0 lv lv x.xN.A4, A0 lv lv x.A9, .int .i64 x.Ak, A0 lv lv x.BU, .int .i64 x.FA] : List V) = _
  simp only [A0, JK]
 rwa [e] at h
structure Ep where
 Cg : Int
 RC : Int
 FZ : Int
instance : AF Ep := ⟨3, by decide, fun l x => AF.BD l x.Cg ++ (AF.BD l x.RC ++ (AF.BD l x.FZ)), fun x => by simp only [dw, AF.len]; rfl, fun x h => by simp only [Bc, AF.Ej _ h]; rfl, fun x => by simp only [gk, AF.cell]; rfl⟩
instance : Az Ep := Az.via (fun x => (x.Cg, x.RC, x.FZ) : Ep → Int × Int × Int) rfl fun _ _ => rfl
instance : Cq Ep := ⟨fun G x => Cq.fl (α := Int × Int × Int) G (x.Cg, x.RC, x.FZ), fun l x => Cq.Z6 (α := Int × Int × Int) l (x.Cg, x.RC, x.FZ), Cq.pos (α := Int × Int × Int)⟩
theorem VJ : B3 dp 25 = some 2 := by rfl
theorem eI : D7 dp 25 = some true := by rfl
theorem eJ : AL dp 25 0 = some 0 := by rfl
theorem rX : D7 dp 22 = some false := by rfl
theorem jV : IA dp 22 = some false := by rfl
theorem sB : B0 dp 22 = some 187 := by rfl
theorem SM : B3 dp 187 = some 4 := by rfl
theorem kR : D7 dp 187 = some true := by rfl
theorem Xe : AL dp 187 0 = some 0 := by rfl
theorem Kx : D7 dp 9 = some false := by rfl
theorem jY : IA dp 9 = some true := by rfl
theorem eK : AL dp 25 1 = some 1 := by rfl
theorem rY : D7 dp 23 = some false := by rfl
theorem jW : IA dp 23 = some false := by rfl
theorem sC : B0 dp 23 = some 191 := by rfl
theorem SN : B3 dp 191 = some 3 := by rfl
theorem kT : D7 dp 191 = some true := by rfl
theorem Xf : AL dp 191 1 = some 1 := by rfl
theorem Xg : AL dp 191 2 = some 2 := by rfl
theorem kS : D7 dp 189 = some false := by rfl
theorem eN : IA dp 189 = some false := by rfl
theorem jX : IA dp 26 = some false := by rfl
theorem sD : B0 dp 26 = some 100 := by rfl
theorem SL : B3 dp 100 = some 4 := by rfl
theorem kQ : D7 dp 100 = some true := by rfl
theorem Xc : AL dp 100 0 = some 0 := by rfl
theorem CB : B3 dp 34 = some 2 := by rfl
theorem nO : BH dp 34 = some [(.tl 0 []), (.tl 0 [])] := by rfl
theorem IB : B0 dp 31 = some 136 := by rfl
theorem Cp : B3 dp 136 = some 4 := by rfl
theorem s6 : C3 dp 136 = some 40 := by rfl
theorem VC : BH dp 136 = some [.str ByteArray.empty, .int .i64 0, .int .i64 0, .int .i64 0] := by rfl
theorem Gn : AL dp 136 0 = some 0 := by rfl
theorem oG : B3 dp 9 = some 1 := by rfl
theorem jO : AL dp 187 1 = some 1 := by rfl
theorem B5 : D7 dp 3 = some false := by rfl
theorem Dj : AL dp 136 1 = some 1 := by rfl
theorem G8 : B3 dp 3 = some 1 := by rfl
theorem jP : AL dp 187 2 = some 2 := by rfl
theorem JY : AL dp 136 2 = some 2 := by rfl
theorem jQ : AL dp 187 3 = some 3 := by rfl
theorem JZ : AL dp 136 3 = some 3 := by rfl
theorem R7 : D7 dp 136 = some true := by rfl
theorem D0 : AL dp 34 0 = some 0 := by rfl
theorem uW : B3 dp 31 = some 1 := by rfl
theorem HA : B0 dp 32 = some 203 := by rfl
theorem BY : B3 dp 203 = some 3 := by rfl
theorem s7 : C3 dp 203 = some 48 := by rfl
theorem Ji : BH dp 203 = some [.int .i64 0, .str ByteArray.empty, (.tl 0 [])] := by rfl
theorem jR : AL dp 191 0 = some 0 := by rfl
theorem DE : AL dp 203 0 = some 0 := by rfl
theorem Fq : AL dp 203 1 = some 1 := by rfl
theorem CV : B0 dp 104 = some 153 := by rfl
theorem AS : B3 dp 153 = some 2 := by rfl
theorem kY : C3 dp 153 = some 16 := by rfl
theorem Cw : BH dp 153 = some [.int .i64 0, .int .i64 0] := by rfl
theorem sA : B0 dp 189 = some 343 := by rfl
theorem eQ : B3 dp 343 = some 2 := by rfl
theorem rZ : D7 dp 343 = some true := by rfl
theorem jT : AL dp 343 0 = some 0 := by rfl
theorem Dk : AL dp 153 0 = some 0 := by rfl
theorem jU : AL dp 343 1 = some 1 := by rfl
theorem EX : AL dp 153 1 = some 1 := by rfl
theorem Br : D7 dp 153 = some true := by rfl
theorem Ct : AL dp 203 2 = some 2 := by rfl
theorem eP : B3 dp 104 = some 1 := by rfl
theorem I5 : D7 dp 203 = some true := by rfl
theorem DK : AL dp 34 1 = some 1 := by rfl
theorem uX : B3 dp 32 = some 1 := by rfl
theorem E4 : D7 dp 34 = some true := by rfl
theorem GM : B0 dp 36 = some 107 := by rfl
theorem BF : B3 dp 107 = some 4 := by rfl
theorem s5 : C3 dp 107 = some 40 := by rfl
theorem HL : BH dp 107 = some [.str ByteArray.empty, .int .i64 0, .int .i64 0, .int .i64 0] := by rfl
theorem Gl : AL dp 107 0 = some 0 := by rfl
theorem jK : AL dp 100 1 = some 1 := by rfl
theorem DD : AL dp 107 1 = some 1 := by rfl
theorem jL : AL dp 100 2 = some 2 := by rfl
theorem CW : AL dp 107 2 = some 2 := by rfl
theorem jM : AL dp 100 3 = some 3 := by rfl
theorem DO : AL dp 107 3 = some 3 := by rfl
theorem H8 : D7 dp 107 = some true := by rfl
theorem Bj : B3 dp 148 = some 2 := by rfl
theorem DU : BH dp 148 = some [.int .i64 0, .int .i64 0] := by rfl
theorem Gd : D7 dp 31 = some false := by rfl
theorem Km : IA dp 31 = some false := by rfl
theorem HF : D7 dp 32 = some false := by rfl
theorem NO : IA dp 32 = some false := by rfl
theorem EJ : Dy dp 148 = some [(0, 1), (1, 1)] := by rfl
theorem Ed : D7 dp 148 = some true := by rfl
theorem Ew : D7 dp 104 = some false := by rfl
theorem HM : IA dp 104 = some false := by rfl
theorem Mm : Dy dp 153 = some [(0, 1), (1, 1)] := by rfl
theorem Xh : II dp 153 = some [.i, .i] := by decide +kernel
theorem Xd : AL dp 148 0 = some 0 := by rfl
theorem KI : IA dp 36 = some false := by rfl
theorem sG : Dy dp 106 = some [(0, 2), (2, 1), (3, 1), (4, 1), (5, 1), (6, 1)] := by rfl
theorem rS : BH dp 106 = some [(.tl 0 []), (.tl 0 []), (.tl 0 []), .int .i64 0, (.tl 0 []), .int .i64 0, (.tl 0 [])] := by rfl
theorem sI : B3 dp 106 = some 7 := by rfl
theorem lE : Dy dp 113 = some [(0, 1), (1, 1), (2, 1), (3, 1), (4, 1), (5, 1), (6, 1), (7, 1)] := by rfl
theorem Kw : BH dp 113 = some [.int .i64 0, .int .i64 0, (.tl 0 []), (.tl 0 []), (.tl 0 []), (.tl 0 []), (.tl 0 []), (.tl 0 [])] := by rfl
theorem Bs : B3 dp 113 = some 8 := by rfl
theorem Oh : AL dp 106 4 = some 5 := by rfl
theorem Mi : AL dp 106 3 = some 4 := by rfl
theorem Wp : D7 dp 29 = some false := by rfl
theorem Tf : IA dp 29 = some false := by rfl
theorem Ey : AL dp 113 2 = some 2 := by rfl
theorem RX : D7 dp 92 = some false := by rfl
theorem Wq : IA dp 92 = some false := by rfl
theorem JX : B0 dp 92 = some 193 := by rfl
theorem E5 : B3 dp 193 = some 2 := by rfl
theorem SK : D7 dp 193 = some true := by rfl
theorem Jh : BH dp 193 = some [.int .i64 0, .int .i64 0] := by rfl
theorem Mj : AL dp 193 0 = some 0 := by rfl
theorem Mk : AL dp 193 1 = some 1 := by rfl
theorem H9 : D7 dp 113 = some true := by rfl
theorem VF : C3 dp 193 = some 16 := by rfl
theorem k7 : B3 dp 92 = some 1 := by rfl
theorem Ex : B0 dp 109 = some 219 := by rfl
theorem CM : B3 dp 219 = some 2 := by rfl
theorem I1 : BH dp 219 = some [.int .i64 0, .int .i64 0] := by rfl
theorem DY : AL dp 113 3 = some 3 := by rfl
theorem I2 : D7 dp 109 = some false := by rfl
theorem VG : C3 dp 219 = some 16 := by rfl
theorem Xl : B3 dp 109 = some 1 := by rfl
theorem I6 : B0 dp 46 = some 3 := by rfl
theorem XZ : BH dp 3 = some [.int .i64 0] := by rfl
theorem Fp : AL dp 113 4 = some 4 := by rfl
theorem VE : D7 dp 46 = some false := by rfl
theorem s8 : C3 dp 3 = some 8 := by rfl
theorem jZ : B3 dp 46 = some 1 := by rfl
theorem DV : B0 dp 110 = some 144 := by rfl
theorem DB : B3 dp 144 = some 3 := by rfl
theorem FU : BH dp 144 = some [.int .i64 0, .int .i64 0, .int .i64 0] := by rfl
theorem EB : AL dp 113 5 = some 5 := by rfl
theorem I3 : D7 dp 110 = some false := by rfl
theorem KG : C3 dp 144 = some 24 := by rfl
theorem Mn : B3 dp 110 = some 1 := by rfl
theorem eL : Dy dp 193 = some [(0, 1), (1, 1)] := by rfl
theorem Di : AL dp 106 0 = some 0 := by rfl
theorem Og : AL dp 106 1 = some 2 := by rfl
theorem RW : D7 dp 36 = some false := by rfl
theorem lF : Dy dp 144 = some [(0, 1), (1, 1), (2, 1)] := by rfl
theorem Xa : D7 dp 144 = some true := by rfl
theorem Gm : AL dp 113 1 = some 1 := by rfl
theorem jN : AL dp 106 2 = some 3 := by rfl
theorem IW : AL dp 113 6 = some 6 := by rfl
theorem KH : IA dp 109 = some false := by rfl
theorem KF : D7 dp 219 = some true := by rfl
theorem Ez : AL dp 219 0 = some 0 := by rfl
theorem Oi : AL dp 106 5 = some 6 := by rfl
theorem HY : AL dp 219 1 = some 1 := by rfl
theorem EC : AL dp 113 7 = some 7 := by rfl
theorem I4 : D7 dp 111 = some false := by rfl
theorem Ns : Dy dp 223 = some [(0, 1), (1, 1), (2, 1), (3, 1)] := by rfl
theorem EO : BH dp 223 = some [.int .i64 0, .int .i64 0, .int .i64 0, .int .i64 0] := by rfl
theorem D5 : B0 dp 111 = some 223 := by rfl
theorem Db : B3 dp 223 = some 4 := by rfl
theorem Ky : C3 dp 223 = some 32 := by rfl
theorem KJ : B3 dp 111 = some 1 := by rfl
theorem HG : B0 dp 29 = some 113 := by rfl
theorem kX : C3 dp 113 = some 160 := by rfl
theorem sK : B3 dp 29 = some 1 := by rfl
theorem eM : Dy dp 219 = some [(0, 1), (1, 1)] := by rfl
theorem Xi : Kk dp 348 = some (.one .s, 4) := by decide +kernel
theorem uV : L0 dp 4 = some (GR.pv (false : Bool)) := by rfl
theorem Xj : Kk dp 350 = some (.many [.i, .i], 3) := by decide +kernel
theorem tE : L0 dp 3 = some (GR.pv (0 : Int)) := by rfl
theorem lC : II dp 148 = some [.i, .i] := by decide +kernel
theorem sH : Dy dp 211 = some [(0, 2), (2, 1), (3, 1), (4, 1), (5, 1)] := by rfl
theorem rU : BH dp 211 = some [(.tl 0 []), (.tl 0 []), (.tl 0 []), .int .i64 0, (.tl 0 []), .int .i64 0] := by rfl
theorem sJ : B3 dp 211 = some 6 := by rfl
theorem Ml : AL dp 211 4 = some 5 := by rfl
theorem Xk : Dy dp 214 = some [(0, 1), (1, 1), (2, 1)] := by rfl
theorem VD : BH dp 214 = some [.int .i64 0, .int .i64 0, .int .i64 0] := by rfl
theorem Kz : B3 dp 214 = some 3 := by rfl
theorem Oo : AL dp 211 3 = some 4 := by rfl
theorem Gp : AL dp 214 0 = some 0 := by rfl
theorem HX : AL dp 214 2 = some 2 := by rfl
theorem sE : II dp 193 = some [.i, .i] := by decide +kernel
theorem kZ : Tryz.f121.body.bind Gh = some 92 := by rfl
theorem On : AL dp 211 1 = some 2 := by rfl
theorem eH : D7 dp 214 = some true := by rfl
theorem Jb : AL dp 214 1 = some 1 := by rfl
theorem Xb : Tryz.f124.body.bind Gh = some 110 := by rfl
theorem Ja : AL dp 211 0 = some 0 := by rfl
theorem jS : AL dp 211 2 = some 3 := by rfl
theorem uY : B3 dp 36 = some 1 := by rfl
theorem rT : BH dp 111 = some [(.tl 0 [])] := by rfl
theorem lG : B3 dp 369 = some 1 := by rfl
theorem rV : BH dp 369 = some [.EI] := by rfl
theorem lH : B3 dp 370 = some 1 := by rfl
theorem rW : BH dp 370 = some [.EI] := by rfl
theorem kW : D7 dp 370 = some false := by rfl
theorem kV : D7 dp 369 = some false := by rfl
theorem lD : Kk dp 369 = some (.many [.i, .i], 4) := by decide +kernel
theorem sF : II dp 219 = some [.i, .i] := by decide +kernel
theorem lB : Tryz.f123.body.bind Gh = some 46 := by rfl
theorem lA : Tryz.f122.body.bind Gh = some 109 := by rfl
theorem s9 : Tryz.f125.body.bind Gh = some 111 := by rfl
theorem Oj : AL dp 113 0 = some 0 := by rfl
theorem eO : IA dp 46 = some false := by rfl
theorem VH : IA dp 110 = some false := by rfl
theorem Ok : AL dp 144 0 = some 0 := by rfl
theorem Ol : AL dp 144 1 = some 1 := by rfl
theorem Om : AL dp 144 2 = some 2 := by rfl
theorem VI : IA dp 111 = some false := by rfl
theorem kU : D7 dp 223 = some true := by rfl
theorem Oq : AL dp 223 0 = some 0 := by rfl
theorem Ot : AL dp 223 1 = some 1 := by rfl
theorem Ou : AL dp 223 2 = some 2 := by rfl
theorem Ov : AL dp 223 3 = some 3 := by rfl
theorem uU : B0 dp 65 = some 5 := by rfl
theorem vZ : B3 dp 5 = some 1 := by rfl
theorem vY : BH dp 5 = some [.int .u8 0] := by rfl
def Y4 (ab : A1) (al : Int) : Option Int :=
 (bif decide ((AN (al - (ab.Name.size : Int))) < 0) then some (-1:Int) else some (AN (al - (ab.Name.size : Int))))
theorem ZU (hk : Y4 ab al = some r) (sn : 0 < lk.length := by simp) : Aw dp hh 105 [.agg [.str ab.Name, iv ab.Bo, iv ab.Cc, iv ab.DM], iv al] H lk = some (iv r, H) := by
 refine AH Tryz.func105 rfl Tryz.ntmps105 Tryz.results105 rfl rfl fun hO => ?_
 unfold Y4 at hk
 refine sr (C0 (cs := [_, _, _, _]) hO SM (fun b1 G hO => ?_))
 refine pA (.int _ _) (pg (sr ?_))
 refine pM (.int _ _) ?_
 refine B4 Xe hO 0 (.str _) Kx ?_
 refine BE jY ?_
 refine AO ?_
 refine pA (.int _ _) (pg (AU (sr ?_)))
 refine pM (.int _ _) ?_
 refine AO (pg (As hk ?_ ?_)) <;> intro hk
 ·refine sr (pA (.int _ _) (pg (Ax (gr ?_))))
  cases hk; exact Ah hO
 refine Av (gn (sr (pM (.int _ _) ?_)))
 refine pA (.int _ _) (pg (Ax ?_))
 cases hk; exact Ah hO
def Sw (ab : List A1) : (Int × Int) → Option ((Int × Int) ⊕ Int) := fun s =>
 (bif decide (s.2 < (ab.length : Int)) then ((AR ab s.2).bind fun c3 => ((Y4 c3 s.1).bind fun v4 => (bif decide (v4 < 0) then ((some (-1:Int)).map Sum.inr) else some (.inl (v4, AN (s.2 + 1)))))) else ((some s.1).map Sum.inr))
def pH (ab : List A1) (al : Int) : Option Int :=
 (bif decide ((AN (al - (ab.length : Int))) < 0) then some (-1:Int) else (AQ (Sw ab) (AN (al - (ab.length : Int)), (0:Int))))
theorem gM (hk : pH ab al = some r) (sn : 0 < lk.length := by simp) : Aw dp hh 38 [A0 l1 0 ab, iv al] H lk = some (iv r, H) := by
 refine AH Tryz.func38 rfl Tryz.ntmps38 Tryz.results38 rfl rfl fun hO => ?_
 unfold pH at hk
 refine sr (pA (.int _ _) (pg (sr ?_)))
 refine pM (.int _ _) ?_
 refine pM (.lit _ _ _) ?_
 refine BE jV ?_
 refine AO ?_
 refine pA (.int _ _) (pg (AU (sr ?_)))
 refine pM (.int _ _) ?_
 refine AO (pg (As hk ?_ ?_)) <;> intro hk
 ·refine sr (pA (.int _ _) (pg (Ax (gr ?_))))
  cases hk; exact Ah hO
 refine Av (gn (AU (sr (pA (.int _ _) (pg (Bn ?_))))))
 refine AE (F := Sw ab) (fun s S' => ∃ J G, A6 H G [] ∧ S' = ⟨Ao [(0, A0 l1 0 ab),(1, iv s.1),(5, iv s.2)] J, G⟩) hk ⟨_, _, hO, sh⟩ ?_
 rintro ⟨x1, x2⟩ _ y1 ⟨J, G, hO, rfl⟩ hk se
 refine AU (sr (pM (.int _ _) ?_))
 refine pM (.lit _ _ _) ?_
 refine BE jV ?_
 refine AO (pg (As hk ?_ ?_)) <;> intro hk
 ·refine Av (gn (AU (Bn (sr (pM (.lit _ _ _) ?_)))))
  refine pM (.int _ _) (bk hk fun c3 sx hk => ?_)
  refine pX sx sB SM ?_
  refine CQ (.agg [_, _, _, _]) (EA (lm := 0) (off := 0) sx kR SM) ?_
  refine pM (.int _ _) (bk hk fun v4 uq hk => ?_)
  refine Ae (fun _ => ZU uq) ?_
  refine pA (.int _ _) (pg (sr ?_))
  refine pM (.int _ _) ?_
  refine AO (pg (As hk ?_ ?_)) <;> intro hk
  ·refine sr (pA (.int _ _) (pg (Ax (br (gr (gr (br (gr (have hk := lx se hk; ?_)))))))))
   cases hk; exact Ah hO
  refine Av (bn (gn (Cj (pM (.int _ _) ?_))))
  refine AO ?_
  refine pA (.int _ _) (pg ?_)
  cases hk; exact ⟨_, rfl, _, _, hO, sh⟩
 refine Dh (ge (ge (be (gn (have hk := lx se hk; sr (pM (.int _ _) ?_))))))
 refine pA (.int _ _) (pg (Ax ?_))
 cases hk; exact Ah hO
def Zw (ab : List Ac) (al : Int) : Option Int :=
 (bif decide ((AN (al - (ab.length : Int))) < 0) then some (-1:Int) else some (AN (al - (ab.length : Int))))
theorem Zx (hk : Zw ab al = some r) (sn : 0 < lk.length := by simp) : Aw dp hh 172 [A0 l1 0 ab, iv al] H lk = some (iv r, H) := by
 refine AH Tryz.func172 rfl Tryz.ntmps172 Tryz.results172 rfl rfl fun hO => ?_
 unfold Zw at hk
 refine sr (pA (.int _ _) (pg (sr ?_)))
 refine pM (.int _ _) ?_
 refine pM (.lit _ _ _) ?_
 refine BE eN ?_
 refine AO ?_
 refine pA (.int _ _) (pg (AU (sr ?_)))
 refine pM (.int _ _) ?_
 refine AO (pg (As hk ?_ ?_)) <;> intro hk
 ·refine sr (pA (.int _ _) (pg (Ax (gr ?_))))
  cases hk; exact Ah hO
 refine Av (gn (sr (pM (.int _ _) ?_)))
 refine pA (.int _ _) (pg (Ax ?_))
 cases hk; exact Ah hO
def Y5 (ab : AG) (al : Int) : Option Int :=
 (bif decide ((AN (al - (ab.Name.size : Int))) < 0) then some (-1:Int) else ((Zw ab.Ends (AN (al - (ab.Name.size : Int)))).bind fun v2 => (bif decide (v2 < 0) then some (-1:Int) else some v2)))
theorem ZV (hk : Y5 ab al = some r) (sn : 0 < lk.length := by simp) : Aw dp hh 106 [.agg [iv ab.Kind, .str ab.Name, A0 l1 0 ab.Ends], iv al] H lk = some (iv r, H) := by
 refine AH Tryz.func106 rfl Tryz.ntmps106 Tryz.results106 rfl rfl fun hO => ?_
 unfold Y5 at hk
 refine sr (C0 (cs := [_, _, _]) hO SN (fun b1 G hO => ?_))
 refine pA (.int _ _) (pg (sr ?_))
 refine pM (.int _ _) ?_
 refine B4 Xf hO 0 (.str _) Kx ?_
 refine BE jY ?_
 refine AO ?_
 refine pA (.int _ _) (pg (AU (sr ?_)))
 refine pM (.int _ _) ?_
 refine AO (pg (As hk ?_ ?_)) <;> intro hk
 ·refine sr (pA (.int _ _) (pg (Ax (gr ?_))))
  cases hk; exact Ah hO
 refine Av (gn (sr (B4 Xg hO 0 (.lit _ _ _) kS ?_)))
 refine pM (.int _ _) (bk hk fun v2 yo hk => ?_)
 refine Ae (fun _ => Zx yo) ?_
 refine pA (.int _ _) (pg (AU (sr ?_)))
 refine pM (.int _ _) ?_
 refine AO (pg (As hk ?_ ?_)) <;> intro hk
 ·refine sr (pA (.int _ _) (pg (Ax (gr ?_))))
  cases hk; exact Ah hO
 refine Av (gn (sr (pM (.int _ _) ?_)))
 refine pA (.int _ _) (pg (Ax ?_))
 cases hk; exact Ah hO
def Sx (ab : List AG) : (Int × Int) → Option ((Int × Int) ⊕ Int) := fun s =>
 (bif decide (s.2 < (ab.length : Int)) then ((AR ab s.2).bind fun c3 => ((Y5 c3 s.1).bind fun v4 => (bif decide (v4 < 0) then ((some (-1:Int)).map Sum.inr) else some (.inl (v4, AN (s.2 + 1)))))) else ((some s.1).map Sum.inr))
def pI (ab : List AG) (al : Int) : Option Int :=
 (bif decide ((AN (al - (ab.length : Int))) < 0) then some (-1:Int) else (AQ (Sx ab) (AN (al - (ab.length : Int)), (0:Int))))
theorem gN (hk : pI ab al = some r) (sn : 0 < lk.length := by simp) : Aw dp hh 39 [A0 l1 m2 ab, iv al] H lk = some (iv r, H) := by
 refine AH Tryz.func39 rfl Tryz.ntmps39 Tryz.results39 rfl rfl fun hO => ?_
 unfold pI at hk
 refine sr (pA (.int _ _) (pg (sr ?_)))
 refine pM (.int _ _) ?_
 refine pM (.lit _ _ _) ?_
 refine BE jW ?_
 refine AO ?_
 refine pA (.int _ _) (pg (AU (sr ?_)))
 refine pM (.int _ _) ?_
 refine AO (pg (As hk ?_ ?_)) <;> intro hk
 ·refine sr (pA (.int _ _) (pg (Ax (gr ?_))))
  cases hk; exact Ah hO
 refine Av (gn (AU (sr (pA (.int _ _) (pg (Bn ?_))))))
 refine AE (F := Sx ab) (fun s S' => ∃ J G, A6 H G [] ∧ S' = ⟨Ao [(0, A0 l1 m2 ab),(1, iv s.1),(5, iv s.2)] J, G⟩) hk ⟨_, _, hO, sh⟩ ?_
 rintro ⟨x1, x2⟩ _ y1 ⟨J, G, hO, rfl⟩ hk se
 refine AU (sr (pM (.int _ _) ?_))
 refine pM (.lit _ _ _) ?_
 refine BE jW ?_
 refine AO (pg (As hk ?_ ?_)) <;> intro hk
 ·refine Av (gn (AU (Bn (sr (pM (.lit _ _ _) ?_)))))
  refine pM (.int _ _) (bk hk fun c3 sx hk => ?_)
  refine pX sx sC SN ?_
  refine CQ (.agg [_, _, _]) (EA (lm := m2) (off := 0) sx kT SN) ?_
  refine pM (.int _ _) (bk hk fun v4 uq hk => ?_)
  refine Ae (fun _ => ZV uq) ?_
  refine pA (.int _ _) (pg (sr ?_))
  refine pM (.int _ _) ?_
  refine AO (pg (As hk ?_ ?_)) <;> intro hk
  ·refine sr (pA (.int _ _) (pg (Ax (br (gr (gr (br (gr (have hk := lx se hk; ?_)))))))))
   cases hk; exact Ah hO
  refine Av (bn (gn (Cj (pM (.int _ _) ?_))))
  refine AO ?_
  refine pA (.int _ _) (pg ?_)
  cases hk; exact ⟨_, rfl, _, _, hO, sh⟩
 refine Dh (ge (ge (be (gn (have hk := lx se hk; sr (pM (.int _ _) ?_))))))
 refine pA (.int _ _) (pg (Ax ?_))
 cases hk; exact Ah hO
def f8 (ab : Bq) (al : Int) : Option Int :=
 ((pH ab.A3 al).bind fun v2 => (bif decide (v2 < 0) then some (-1:Int) else ((pI ab.A4 v2).bind fun v3 => (bif decide (v3 < 0) then some (-1:Int) else some v3))))
theorem mP (hk : f8 ab al = some r) (sn : 0 < lk.length := by simp) : Aw dp hh 8 [.agg [A0 l1 0 ab.A3, A0 l2 m3 ab.A4], iv al] H lk = some (iv r, H) := by
 refine AH Tryz.func8 rfl Tryz.ntmps8 Tryz.results8 rfl rfl fun hO => ?_
 unfold f8 at hk
 refine sr (C0 (cs := [_, _]) hO VJ (fun b1 G hO => ?_))
 refine pA (.int _ _) (pg (sr ?_))
 refine B4 eJ hO 0 (.lit _ _ _) rX ?_
 refine pM (.int _ _) (bk hk fun v2 yo hk => ?_)
 refine Ae (fun _ => gM yo) ?_
 refine pA (.int _ _) (pg (AU (sr ?_)))
 refine pM (.int _ _) ?_
 refine AO (pg (As hk ?_ ?_)) <;> intro hk
 ·refine sr (pA (.int _ _) (pg (Ax (gr ?_))))
  cases hk; exact Ah hO
 refine Av (gn (sr (B4 eK hO 0 (.lit _ _ _) rY ?_)))
 refine pM (.int _ _) (bk hk fun v3 zi hk => ?_)
 refine Ae (fun _ => gN zi) ?_
 refine pA (.int _ _) (pg (AU (sr ?_)))
 refine pM (.int _ _) ?_
 refine AO (pg (As hk ?_ ?_)) <;> intro hk
 ·refine sr (pA (.int _ _) (pg (Ax (gr ?_))))
  cases hk; exact Ah hO
 refine Av (gn (sr (pM (.int _ _) ?_)))
 refine pA (.int _ _) (pg (Ax ?_))
 cases hk; exact Ah hO
def oA (ab : AI) (al : Int) : Option Int :=
 (bif decide ((AN (al - (ab.Name.size : Int))) < 0) then some (-1:Int) else some (AN (al - (ab.Name.size : Int))))
theorem gO (hk : oA ab al = some r) (sn : 0 < lk.length := by simp) : Aw dp hh 40 [.agg [.str ab.Name, iv ab.A1, iv ab.At, iv ab.Way], iv al] H lk = some (iv r, H) := by
 refine AH Tryz.func40 rfl Tryz.ntmps40 Tryz.results40 rfl rfl fun hO => ?_
 unfold oA at hk
 refine sr (C0 (cs := [_, _, _, _]) hO SL (fun b1 G hO => ?_))
 refine pA (.int _ _) (pg (sr ?_))
 refine pM (.int _ _) ?_
 refine B4 Xc hO 0 (.str _) Kx ?_
 refine BE jY ?_
 refine AO ?_
 refine pA (.int _ _) (pg (AU (sr ?_)))
 refine pM (.int _ _) ?_
 refine AO (pg (As hk ?_ ?_)) <;> intro hk
 ·refine sr (pA (.int _ _) (pg (Ax (gr ?_))))
  cases hk; exact Ah hO
 refine Av (gn (sr (pM (.int _ _) ?_)))
 refine pA (.int _ _) (pg (Ax ?_))
 cases hk; exact Ah hO
def XD (ab : List AI) : (Int × Int) → Option ((Int × Int) ⊕ Int) := fun s =>
 (bif decide (s.2 < (ab.length : Int)) then ((AR ab s.2).bind fun c3 => ((oA c3 s.1).bind fun v4 => (bif decide (v4 < 0) then ((some (-1:Int)).map Sum.inr) else some (.inl (v4, AN (s.2 + 1)))))) else ((some s.1).map Sum.inr))
def f9 (ab : List AI) (al : Int) : Option Int :=
 (bif decide ((AN (al - (ab.length : Int))) < 0) then some (-1:Int) else (AQ (XD ab) (AN (al - (ab.length : Int)), (0:Int))))
theorem mQ (hk : f9 ab al = some r) (sn : 0 < lk.length := by simp) : Aw dp hh 9 [A0 l1 0 ab, iv al] H lk = some (iv r, H) := by
 refine AH Tryz.func9 rfl Tryz.ntmps9 Tryz.results9 rfl rfl fun hO => ?_
 unfold f9 at hk
 refine sr (pA (.int _ _) (pg (sr ?_)))
 refine pM (.int _ _) ?_
 refine pM (.lit _ _ _) ?_
 refine BE jX ?_
 refine AO ?_
 refine pA (.int _ _) (pg (AU (sr ?_)))
 refine pM (.int _ _) ?_
 refine AO (pg (As hk ?_ ?_)) <;> intro hk
 ·refine sr (pA (.int _ _) (pg (Ax (gr ?_))))
  cases hk; exact Ah hO
 refine Av (gn (AU (sr (pA (.int _ _) (pg (Bn ?_))))))
 refine AE (F := XD ab) (fun s S' => ∃ J G, A6 H G [] ∧ S' = ⟨Ao [(0, A0 l1 0 ab),(1, iv s.1),(5, iv s.2)] J, G⟩) hk ⟨_, _, hO, sh⟩ ?_
 rintro ⟨x1, x2⟩ _ y1 ⟨J, G, hO, rfl⟩ hk se
 refine AU (sr (pM (.int _ _) ?_))
 refine pM (.lit _ _ _) ?_
 refine BE jX ?_
 refine AO (pg (As hk ?_ ?_)) <;> intro hk
 ·refine Av (gn (AU (Bn (sr (pM (.lit _ _ _) ?_)))))
  refine pM (.int _ _) (bk hk fun c3 sx hk => ?_)
  refine pX sx sD SL ?_
  refine CQ (.agg [_, _, _, _]) (EA (lm := 0) (off := 0) sx kQ SL) ?_
  refine pM (.int _ _) (bk hk fun v4 uq hk => ?_)
  refine Ae (fun _ => gO uq) ?_
  refine pA (.int _ _) (pg (sr ?_))
  refine pM (.int _ _) ?_
  refine AO (pg (As hk ?_ ?_)) <;> intro hk
  ·refine sr (pA (.int _ _) (pg (Ax (br (gr (gr (br (gr (have hk := lx se hk; ?_)))))))))
   cases hk; exact Ah hO
  refine Av (bn (gn (Cj (pM (.int _ _) ?_))))
  refine AO ?_
  refine pA (.int _ _) (pg ?_)
  cases hk; exact ⟨_, rfl, _, _, hO, sh⟩
 refine Dh (ge (ge (be (gn (have hk := lx se hk; sr (pM (.int _ _) ?_))))))
 refine pA (.int _ _) (pg (Ax ?_))
 cases hk; exact Ah hO
def Zd (ab : A1) : Option A1 :=
 some ab
theorem Ze (hk : Zd ab = some r) (sn : 0 < lk.length := by simp) : Aw dp hh 117 [.agg [.str ab.Name, iv ab.Bo, iv ab.Cc, iv ab.DM]] H lk = some (.agg [.str r.Name, iv r.Bo, iv r.Cc, iv r.DM], H) := by
 refine AH Tryz.func117 rfl Tryz.ntmps117 Tryz.results117 rfl rfl fun hO => ?_
 unfold Zd at hk
 refine sr (C0 (cs := [_, _, _, _]) hO SM (fun b1 G hO => C9 hO Cp VC (fun b2 G hO => pg (sr (C9 hO Cp VC (fun b3 G hO => pg (sr ?_)))))))
 refine B4 Xe hO 2 (.str _) Kx ?_
 refine pF Gn ?_
 refine DR (xs := [_]) hO 0 oG rfl (fun G hO => pg (sr ?_))
 refine B4 jO hO 2 (.int _ _) B5 ?_
 refine pF Dj ?_
 refine DR (xs := [_]) hO 0 G8 rfl (fun G hO => pg (sr ?_))
 refine B4 jP hO 2 (.int _ _) B5 ?_
 refine pF JY ?_
 refine DR (xs := [_]) hO 0 G8 rfl (fun G hO => pg (sr ?_))
 refine B4 jQ hO 2 (.int _ _) B5 ?_
 refine pF JZ ?_
 refine DR (xs := [_]) hO 0 G8 rfl (fun G hO => pg (sr ?_))
 refine Eh hO 0 [_, _, _, _] R7 Cp ?_
 refine DR (xs := [_, _, _, _]) hO 1 Cp rfl (fun G hO => pg (Ax ?_))
 replace hk := dv hk; subst hk; exact Cv hO (C8 (n := 2) (BV (cO _) (BV (Af _ _) (BV (Af _ _) (BV (Af _ _) (Dm)))))) (EW hO 1 [_, _, _, _] R7 Cp CC)
def PX (ab : List A1) : (List A1 × Int) → Option ((List A1 × Int) ⊕ List A1) := fun s =>
 (bif decide (s.2 < (ab.length : Int)) then ((AR ab s.2).bind fun c5 => ((Zd c5).bind fun v6 => ((AR s.1 s.2).bind fun c7 => some (.inl (s.1.set s.2.toNat v6, AN (s.2 + 1)))))) else ((some s.1).map Sum.inr))
def pK (ab : List A1) : Option (List A1) :=
 ((Ks 40 (ab.length : Int)).bind fun m1 => (AQ (PX ab) (gf m1 (⟨ByteArray.empty, 0, 0, 0⟩ : A1), (0:Int))))
theorem gS (hk : pK ab = some r) (sn : 0 < lk.length := by simp) : ∃ v H1, Aw dp hh 45 [A0 l1 0 ab] H lk = some (v, H1) ∧ Jk H r v H1 := by
 refine BG Tryz.func45 rfl Tryz.ntmps45 Tryz.results45 rfl rfl ?_
 have hO := A6.nil H
 unfold pK at hk
 refine sr (pA (.tl 0 []) (pg (sr ?_)))
 refine pM (.lit _ _ _) ?_
 refine BE jV (bk hk fun m1 hm1 hk => ?_)
 refine uF hO hm1 (⟨ByteArray.empty, 0, 0, 0⟩ : A1) IB Cp s6 VC (fun b2 G hO => ?_)
 refine pA (.sl _ _ _) (pg (AU (sr ?_)))
 refine pA (.int _ _) (pg (Bn ?_))
 refine AE (F := PX ab) (fun s S' => ∃ J G, s.1.length = m1 ∧ A6 H G [.Au b2 (.cells 4 (AB 0 s.1))] ∧ S' = ⟨Ao [(0, A0 l1 0 ab),(3, .sl b2 0 m1),(4, iv s.2)] J, G⟩) hk ⟨_, _, mh, hO, sh⟩ ?_
 rintro ⟨x3, x4⟩ _ y1 ⟨J, G, hl3, hO, rfl⟩ hk se
 refine AU (sr (pM (.int _ _) ?_))
 refine pM (.lit _ _ _) ?_
 refine BE jV ?_
 refine AO (pg (As hk ?_ ?_)) <;> intro hk
 ·refine Av (gn (AU (Bn (Cj (pM (.sl _ _ _) ?_)))))
  refine pM (.int _ _) ?_
  refine pM (.lit _ _ _) ?_
  refine pM (.int _ _) (bk hk fun c5 tx hk => ?_)
  refine pX tx sB SM ?_
  refine CQ (.agg [_, _, _, _]) (EA (lm := 0) (off := 0) tx kR SM) (bk hk fun v6 hv6 hk => ?_)
  refine Ae (fun _ => Ze hv6) (bk hk fun c7 tw hk => ?_)
  refine uN hl3 tw IB Cp ?_
  refine uJ hO 0 tw Cp rfl v6 (.agg [_, _, _, _]) (fun G hO => pE (bn (gn (Cj ?_))))
  refine pM (.int _ _) ?_
  refine AO ?_
  refine pA (.int _ _) (pg ?_)
  cases hk; exact ⟨_, rfl, _, _, (List.length_set.trans hl3), hO, sh⟩
 refine Dh (ge (ge (be (gn (have hk := lx se hk; sr (pM (.sl _ _ _) ?_))))))
 refine pA (.sl _ _ _) (pg (Ax ?_))
 replace hk := dv hk; subst hk; exact Pw hO (Tg hl3 sn 0) (Dn (.sl _ _ _) CC)
def aY (ab : Ac) : Option Ac :=
 some ab
theorem aZ (hk : aY ab = some r) (sn : 0 < lk.length := by simp) : Aw dp hh 240 [.agg [iv ab.A1, iv ab.BI]] H lk = some (.agg [iv r.A1, iv r.BI], H) := by
 refine AH Tryz.func240 rfl Tryz.ntmps240 Tryz.results240 rfl rfl fun hO => ?_
 unfold aY at hk
 refine sr (C0 (cs := [_, _]) hO eQ (fun b1 G hO => C9 hO AS Cw (fun b2 G hO => pg (sr (C9 hO AS Cw (fun b3 G hO => pg (sr ?_)))))))
 refine B4 jT hO 2 (.int _ _) B5 ?_
 refine pF Dk ?_
 refine DR (xs := [_]) hO 0 G8 rfl (fun G hO => pg (sr ?_))
 refine B4 jU hO 2 (.int _ _) B5 ?_
 refine pF EX ?_
 refine DR (xs := [_]) hO 0 G8 rfl (fun G hO => pg (sr ?_))
 refine Eh hO 0 [_, _] Br AS ?_
 refine DR (xs := [_, _]) hO 1 AS rfl (fun G hO => pg (Ax ?_))
 replace hk := dv hk; subst hk; exact Cv hO (C8 (n := 2) (BV (Af _ _) (BV (Af _ _) (Dm)))) (EW hO 1 [_, _] Br AS CC)
def Lt (ab : List Ac) : (List Ac × Int) → Option ((List Ac × Int) ⊕ List Ac) := fun s =>
 (bif decide (s.2 < (ab.length : Int)) then ((AR ab s.2).bind fun c5 => ((aY c5).bind fun v6 => ((AR s.1 s.2).bind fun c7 => some (.inl (s.1.set s.2.toNat v6, AN (s.2 + 1)))))) else ((some s.1).map Sum.inr))
def aA (ab : List Ac) : Option (List Ac) :=
 ((Ks 16 (ab.length : Int)).bind fun m1 => (AQ (Lt ab) (gf m1 (⟨0, 0⟩ : Ac), (0:Int))))
theorem aB (hk : aA ab = some r) (sn : 0 < lk.length := by simp) : ∃ v H1, Aw dp hh 177 [A0 l1 0 ab] H lk = some (v, H1) ∧ Jk H r v H1 := by
 refine BG Tryz.func177 rfl Tryz.ntmps177 Tryz.results177 rfl rfl ?_
 have hO := A6.nil H
 unfold aA at hk
 refine sr (pA (.tl 0 []) (pg (sr ?_)))
 refine pM (.lit _ _ _) ?_
 refine BE eN (bk hk fun m1 hm1 hk => ?_)
 refine uF hO hm1 (⟨0, 0⟩ : Ac) CV AS kY Cw (fun b2 G hO => ?_)
 refine pA (.sl _ _ _) (pg (AU (sr ?_)))
 refine pA (.int _ _) (pg (Bn ?_))
 refine AE (F := Lt ab) (fun s S' => ∃ J G, s.1.length = m1 ∧ A6 H G [.Au b2 (.cells 2 (AB 0 s.1))] ∧ S' = ⟨Ao [(0, A0 l1 0 ab),(3, .sl b2 0 m1),(4, iv s.2)] J, G⟩) hk ⟨_, _, mh, hO, sh⟩ ?_
 rintro ⟨x3, x4⟩ _ y1 ⟨J, G, hl3, hO, rfl⟩ hk se
 refine AU (sr (pM (.int _ _) ?_))
 refine pM (.lit _ _ _) ?_
 refine BE eN ?_
 refine AO (pg (As hk ?_ ?_)) <;> intro hk
 ·refine Av (gn (AU (Bn (Cj (pM (.sl _ _ _) ?_)))))
  refine pM (.int _ _) ?_
  refine pM (.lit _ _ _) ?_
  refine pM (.int _ _) (bk hk fun c5 tx hk => ?_)
  refine pX tx sA eQ ?_
  refine CQ (.agg [_, _]) (EA (lm := 0) (off := 0) tx rZ eQ) (bk hk fun v6 hv6 hk => ?_)
  refine Ae (fun _ => aZ hv6) (bk hk fun c7 tw hk => ?_)
  refine uN hl3 tw CV AS ?_
  refine uJ hO 0 tw AS rfl v6 (.agg [_, _]) (fun G hO => pE (bn (gn (Cj ?_))))
  refine pM (.int _ _) ?_
  refine AO ?_
  refine pA (.int _ _) (pg ?_)
  cases hk; exact ⟨_, rfl, _, _, (List.length_set.trans hl3), hO, sh⟩
 refine Dh (ge (ge (be (gn (have hk := lx se hk; sr (pM (.sl _ _ _) ?_))))))
 refine pA (.sl _ _ _) (pg (Ax ?_))
 replace hk := dv hk; subst hk; exact Pw hO (Tg hl3 sn 0) (Dn (.sl _ _ _) CC)
def Zf (ab : AG) : Option AG :=
 ((aA ab.Ends).bind fun v4 => some (⟨ab.Kind, ab.Name, v4⟩ : AG))
theorem Zg (hk : Zf ab = some r) (sn : 0 < lk.length := by simp) : ∃ v H1, Aw dp hh 118 [.agg [iv ab.Kind, .str ab.Name, A0 l1 0 ab.Ends]] H lk = some (v, H1) ∧ SY H r v H1 := by
 refine BG Tryz.func118 rfl Tryz.ntmps118 Tryz.results118 rfl rfl ?_
 have hO := A6.nil H
 unfold Zf at hk
 refine sr (C0 (cs := [_, _, _]) hO SN (fun b1 G hO => C9 hO BY Ji (fun b2 G hO => pg (sr (C9 hO BY Ji (fun b3 G hO => pg (sr ?_)))))))
 refine B4 jR hO 2 (.int _ _) B5 ?_
 refine pF DE ?_
 refine DR (xs := [_]) hO 0 G8 rfl (fun G hO => pg (sr ?_))
 refine B4 Xf hO 2 (.str _) Kx ?_
 refine pF Fq ?_
 refine DR (xs := [_]) hO 0 oG rfl (fun G hO => pg (sr ?_))
 refine B4 Xg hO 2 (.lit _ _ _) kS (bk hk fun v4 uq hk => ?_)
 refine nG hO (fun _ => aB uq) (fun u5 F5 G hO => ?_)
 refine pF Ct ?_
 have xo := J9 hO (j := 0) rfl
 refine DR (xs := [_]) hO 1 eP rfl (fun G hO => ?_) (h3 := xo.1) (h6 := C7 xo.2)
 refine pg (sr (Eh hO 1 [_, _, _] I5 BY ?_))
 have tw := J9 hO (j := 0) rfl
 refine DR (xs := [_, _, _]) hO 2 BY rfl (fun G hO => ?_) (h6 := (Ds rfl (Ds rfl (Ds tw.2 Ts))))
 refine pg (Ax ?_)
 replace hk := dv hk; subst hk; exact cG hO (eR (Th (c1 := [_]) (nR ab.Kind) (Th (c1 := [_]) (nS ab.Name) (Ow 0)))) (EW hO 2 [_, _, _] I5 BY CC)
def PY (ab : List AG) : (List AG × Int) → Option ((List AG × Int) ⊕ List AG) := fun s =>
 (bif decide (s.2 < (ab.length : Int)) then ((AR ab s.2).bind fun c7 => ((Zf c7).bind fun v8 => ((AR s.1 s.2).bind fun ss => some (.inl (s.1.set s.2.toNat v8, AN (s.2 + 1)))))) else ((some s.1).map Sum.inr))
def pL (ab : List AG) : Option (List AG) :=
 ((Ks 48 (ab.length : Int)).bind fun m1 => (AQ (PY ab) (gf m1 (⟨0, ByteArray.empty, []⟩ : AG), (0:Int))))
theorem gT (hk : pL ab = some r) (sn : 0 < lk.length := by simp) : ∃ v H1, Aw dp hh 46 [A0 l1 m2 ab] H lk = some (v, H1) ∧ Jk H r v H1 := by
 refine BG Tryz.func46 rfl Tryz.ntmps46 Tryz.results46 rfl rfl ?_
 have hO := A6.nil H
 unfold pL at hk
 refine sr (pA (.tl 0 []) (pg (sr ?_)))
 refine pM (.lit _ _ _) ?_
 refine BE jW (bk hk fun m1 hm1 hk => ?_)
 refine uG hO hm1 (⟨0, ByteArray.empty, []⟩ : AG) HA BY s7 Ji (fun G => (show Az.tr G (⟨0, ByteArray.empty, []⟩ : AG) [iv 0, .str ByteArray.empty, (.tl 0 [])] [] from ⟨[_], _, [], [], rfl, rfl, ⟨rfl, rfl⟩, ⟨[_], _, [], [], rfl, rfl, ⟨rfl, rfl⟩, .inl ⟨rfl, rfl, rfl⟩⟩⟩)) (fun b2 G hO => ?_)
 refine pA (.sl b2 0 m1) (pg (AU (sr ?_)))
 refine pA (.int _ _) (pg (Bn ?_))
 refine AE (F := PY ab) (fun s S' => ∃ F5 J G, A6 H G [Dl [] F5 s.1 [.sl b2 0 m1]] ∧ S' = ⟨Ao [(0, A0 l1 m2 ab),(3, (.sl b2 0 m1)),(4, iv s.2)] J, G⟩) hk ⟨[b2], _, _, hO, sh⟩ ?_
 rintro ⟨x4, x6⟩ _ y1 ⟨F5, J, G, hO, rfl⟩ hk se
 refine AU (sr (pM (.int _ _) ?_))
 refine pM (.lit _ _ _) ?_
 refine BE jW ?_
 refine AO (pg (As hk ?_ ?_)) <;> intro hk
 ·refine Av (gn (AU (Bn (Cj (pM (.sl b2 0 m1) ?_)))))
  refine pM (.int _ _) ?_
  refine pM (.lit _ _ _) ?_
  refine pM (.int _ _) (bk hk fun c7 tw hk => ?_)
  refine pX tw sC SN ?_
  refine CQ (.agg [_, _, _]) (EA (lm := m2) (off := 0) tw kT SN) (bk hk fun v8 hv8 hk => ?_)
  refine dW hO (fun _ => Zg hv8) (fun u9 F9 G hO => bk hk fun ss sy hk => ?_)
  refine Kc hO 1 sy HA BY (fun b11 hb11 => ?_)
  refine uH hO 0 hb11 sy BY rfl (fun G hO => pE (bn (gn (Cj ?_))))
  refine pM (.int _ _) ?_
  refine AO ?_
  refine pA (.int _ _) (pg ?_)
  cases hk; exact ⟨_, rfl, (F5 ++ F9), _, _, hO, sh⟩
 refine Dh (ge (ge (be (gn (have hk := lx se hk; sr (pM (.sl b2 0 m1) ?_))))))
 refine pA (.sl b2 0 m1) (pg (Ax ?_))
 replace hk := dv hk; subst hk; exact Pw hO (Ow 0) (Dn (.sl b2 0 m1) CC)
def kG (ab : Bq) : Option Bq :=
 ((pK ab.A3).bind fun v4 => ((pL ab.A4).bind fun v7 => some (⟨v4, v7⟩ : Bq)))
theorem OD (hk : kG ab = some r) (sn : 0 < lk.length := by simp) : ∃ v H1, Aw dp hh 11 [.agg [A0 l1 0 ab.A3, A0 l2 m3 ab.A4]] H lk = some (v, H1) ∧ SY H r v H1 := by
 refine BG Tryz.func11 rfl Tryz.ntmps11 Tryz.results11 rfl rfl ?_
 have hO := A6.nil H
 unfold kG at hk
 refine sr (C0 (cs := [_, _]) hO VJ (fun b1 G hO => C9 hO CB nO (fun b2 G hO => pg (sr (C9 hO CB nO (fun b3 G hO => pg (sr ?_)))))))
 refine B4 eJ hO 2 (.lit _ _ _) rX (bk hk fun v4 uq hk => ?_)
 refine nG hO (fun _ => gS uq) (fun u5 F5 G hO => ?_)
 refine pF D0 ?_
 have xo := J9 hO (j := 0) rfl
 refine DR (xs := [_]) hO 1 uW rfl (fun G hO => ?_) (h3 := xo.1) (h6 := C7 xo.2)
 refine pg (sr (B4 eK hO 3 (.lit _ _ _) rY (bk hk fun v7 hv7 hk => ?_)))
 refine nG hO (fun _ => gT hv7) (fun u8 F8 G hO => ?_)
 refine pF DK ?_
 have vk := J9 hO (j := 0) rfl
 refine DR (xs := [_]) hO 2 uX rfl (fun G hO => ?_) (h3 := vk.1) (h6 := C7 vk.2)
 refine pg (sr (Eh hO 2 [_, _] E4 CB ?_))
 have sy := J9 hO (j := 1) rfl
 have tq := J9 hO (j := 0) rfl
 refine DR (xs := [_, _]) hO 3 CB rfl (fun G hO => ?_) (h6 := (Ds sy.2 (Ds tq.2 Ts)))
 refine pg (Ax ?_)
 replace hk := dv hk; subst hk; exact cG hO (nP (Th (c1 := [_]) (Ow 1) (Ow 0))) (EW hO 3 [_, _] E4 CB CC)
def pN (ab : AI) : Option AI :=
 some ab
theorem gU (hk : pN ab = some r) (sn : 0 < lk.length := by simp) : Aw dp hh 47 [.agg [.str ab.Name, iv ab.A1, iv ab.At, iv ab.Way]] H lk = some (.agg [.str r.Name, iv r.A1, iv r.At, iv r.Way], H) := by
 refine AH Tryz.func47 rfl Tryz.ntmps47 Tryz.results47 rfl rfl fun hO => ?_
 unfold pN at hk
 refine sr (C0 (cs := [_, _, _, _]) hO SL (fun b1 G hO => C9 hO BF HL (fun b2 G hO => pg (sr (C9 hO BF HL (fun b3 G hO => pg (sr ?_)))))))
 refine B4 Xc hO 2 (.str _) Kx ?_
 refine pF Gl ?_
 refine DR (xs := [_]) hO 0 oG rfl (fun G hO => pg (sr ?_))
 refine B4 jK hO 2 (.int _ _) B5 ?_
 refine pF DD ?_
 refine DR (xs := [_]) hO 0 G8 rfl (fun G hO => pg (sr ?_))
 refine B4 jL hO 2 (.int _ _) B5 ?_
 refine pF CW ?_
 refine DR (xs := [_]) hO 0 G8 rfl (fun G hO => pg (sr ?_))
 refine B4 jM hO 2 (.int _ _) B5 ?_
 refine pF DO ?_
 refine DR (xs := [_]) hO 0 G8 rfl (fun G hO => pg (sr ?_))
 refine Eh hO 0 [_, _, _, _] H8 BF ?_
 refine DR (xs := [_, _, _, _]) hO 1 BF rfl (fun G hO => pg (Ax ?_))
 replace hk := dv hk; subst hk; exact Cv hO (C8 (n := 2) (BV (cO _) (BV (Af _ _) (BV (Af _ _) (BV (Af _ _) (Dm)))))) (EW hO 1 [_, _, _, _] H8 BF CC)
def PG (ab : List AI) : (List AI × Int) → Option ((List AI × Int) ⊕ List AI) := fun s =>
 (bif decide (s.2 < (ab.length : Int)) then ((AR ab s.2).bind fun c5 => ((pN c5).bind fun v6 => ((AR s.1 s.2).bind fun c7 => some (.inl (s.1.set s.2.toNat v6, AN (s.2 + 1)))))) else ((some s.1).map Sum.inr))
def kH (ab : List AI) : Option (List AI) :=
 ((Ks 40 (ab.length : Int)).bind fun m1 => (AQ (PG ab) (gf m1 (⟨ByteArray.empty, 0, 0, 0⟩ : AI), (0:Int))))
theorem OE (hk : kH ab = some r) (sn : 0 < lk.length := by simp) : ∃ v H1, Aw dp hh 12 [A0 l1 0 ab] H lk = some (v, H1) ∧ Jk H r v H1 := by
 refine BG Tryz.func12 rfl Tryz.ntmps12 Tryz.results12 rfl rfl ?_
 have hO := A6.nil H
 unfold kH at hk
 refine sr (pA (.tl 0 []) (pg (sr ?_)))
 refine pM (.lit _ _ _) ?_
 refine BE jX (bk hk fun m1 hm1 hk => ?_)
 refine uF hO hm1 (⟨ByteArray.empty, 0, 0, 0⟩ : AI) GM BF s5 HL (fun b2 G hO => ?_)
 refine pA (.sl _ _ _) (pg (AU (sr ?_)))
 refine pA (.int _ _) (pg (Bn ?_))
 refine AE (F := PG ab) (fun s S' => ∃ J G, s.1.length = m1 ∧ A6 H G [.Au b2 (.cells 4 (AB 0 s.1))] ∧ S' = ⟨Ao [(0, A0 l1 0 ab),(3, .sl b2 0 m1),(4, iv s.2)] J, G⟩) hk ⟨_, _, mh, hO, sh⟩ ?_
 rintro ⟨x3, x4⟩ _ y1 ⟨J, G, hl3, hO, rfl⟩ hk se
 refine AU (sr (pM (.int _ _) ?_))
 refine pM (.lit _ _ _) ?_
 refine BE jX ?_
 refine AO (pg (As hk ?_ ?_)) <;> intro hk
 ·refine Av (gn (AU (Bn (Cj (pM (.sl _ _ _) ?_)))))
  refine pM (.int _ _) ?_
  refine pM (.lit _ _ _) ?_
  refine pM (.int _ _) (bk hk fun c5 tx hk => ?_)
  refine pX tx sD SL ?_
  refine CQ (.agg [_, _, _, _]) (EA (lm := 0) (off := 0) tx kQ SL) (bk hk fun v6 hv6 hk => ?_)
  refine Ae (fun _ => gU hv6) (bk hk fun c7 tw hk => ?_)
  refine uN hl3 tw GM BF ?_
  refine uJ hO 0 tw BF rfl v6 (.agg [_, _, _, _]) (fun G hO => pE (bn (gn (Cj ?_))))
  refine pM (.int _ _) ?_
  refine AO ?_
  refine pA (.int _ _) (pg ?_)
  cases hk; exact ⟨_, rfl, _, _, (List.length_set.trans hl3), hO, sh⟩
 refine Dh (ge (ge (be (gn (have hk := lx se hk; sr (pM (.sl _ _ _) ?_))))))
 refine pA (.sl _ _ _) (pg (Ax ?_))
 replace hk := dv hk; subst hk; exact Pw hO (Tg hl3 sn 0) (Dn (.sl _ _ _) CC)
def OG (bd : ByteArray) : Int → Option (Int ⊕ Bool) := fun s =>
 (bif decide (s < (bd.size : Int)) then ((HD bd s).bind fun c2 => (bif !(((decide (c2 ≥ 97) && decide (c2 ≤ 122)) || (decide (c2 ≥ 48) && decide (c2 ≤ 57))) || (c2 == 95)) then ((some false).map Sum.inr) else some (.inl (AN (s + 1))))) else ((some (decide ((bd.size : Int) ≥ 1) && decide ((bd.size : Int) ≤ 20))).map Sum.inr))
def Vu (bd : ByteArray) : Option Bool :=
 (AQ (OG bd) ((0:Int)))
theorem PK (hk : Vu bd = some r) (sn : 0 < lk.length := by simp) : Aw dp hh 174 [.str bd] H lk = some (.bool r, H) := by
 refine AH Tryz.func174 rfl Tryz.ntmps174 Tryz.results174 rfl rfl fun hO => ?_
 unfold Vu at hk
 refine sr (pA (.bool _) (pg (AU (sr ?_))))
 refine pA (.int _ _) (pg (Bn ?_))
 refine AE (F := OG bd) (fun s S' => ∃ J G, A6 H G [] ∧ S' = ⟨Ao [(0, .str bd),(3, iv s)] J, G⟩) hk ⟨_, _, hO, sh⟩ ?_
 rintro x1 _ y1 ⟨J, G, hO, rfl⟩ hk se
 refine AU (sr (pM (.int _ _) ?_))
 refine pM (.str _) ?_
 refine BE jY ?_
 refine AO (pg (As hk ?_ ?_)) <;> intro hk
 ·refine Av (gn (AU (Bn (sr (pM (.str _) ?_)))))
  refine pM (.int _ _) (bk hk fun c2 tv hk => ?_)
  refine vK Tryz.underlying9 tv ?_
  refine pA (.int _ _) (pg (sr ?_))
  refine pM (.int _ _) ?_
  refine AO ?_
  refine pM (.bool _) ?_
  refine Aa (l1 := [_, _, _]) (fun S' => ∃ J, S' = ⟨Ao [(0, .str bd),(3, iv x1),(4, .int .u8 c2),(19, .bool (decide (c2 ≥ 97) && decide (c2 ≤ 122)))] J, G⟩) ?_ ?_
  ·refine bc (b := decide (c2 ≥ 97)) ?_ ?_ <;> intro hg
   ·refine AZ hg (pM (.int _ _) (AZ hg ?_))
    refine AO ?_
    refine Ev hg (.bool _) ?_
    exact pE ⟨_, St.Ao _ ⟨rfl, rfl, rfl, by rw [hg]; rfl, trivial⟩⟩
   refine CK hg (CK hg (Eu hg (.bool _) ?_))
   exact pE ⟨_, St.Ao _ ⟨rfl, rfl, rfl, by rw [hg]; rfl, trivial⟩⟩
  rintro _ ⟨J, rfl⟩
  refine pM (.bool _) ?_
  refine Aa (l1 := [_, _, _, _, _, _, _]) (fun S' => ∃ J, S' = ⟨Ao [(0, .str bd),(3, iv x1),(4, .int .u8 c2),(27, .bool ((decide (c2 ≥ 97) && decide (c2 ≤ 122)) || (decide (c2 ≥ 48) && decide (c2 ≤ 57))))] J, G⟩) ?_ ?_
  ·refine bc (b := (decide (c2 ≥ 97) && decide (c2 ≤ 122))) ?_ ?_ <;> intro hg
   ·refine CK hg (CK hg (CK hg (E9 (E9 (CK hg (Ev hg (.bool _) ?_))))))
    exact pE ⟨_, St.Ao _ ⟨rfl, rfl, rfl, by rw [hg]; rfl, trivial⟩⟩
   refine AZ hg (pM (.int _ _) (AZ hg ?_))
   refine AO (AZ hg ?_)
   refine pM (.bool _) ?_
   refine Aa (l1 := [_, _, _]) (fun S' => ∃ J, S' = ⟨Ao [(0, .str bd),(3, iv x1),(4, .int .u8 c2),(20, .bool (decide (c2 ≥ 97) && decide (c2 ≤ 122))),(26, .bool (decide (c2 ≥ 48) && decide (c2 ≤ 57)))] J, G⟩) ?_ ?_
   ·refine bc (b := decide (c2 ≥ 48)) (fun si => ?_) (fun si => ?_)
    ·refine AZ si (pM (.int _ _) (AZ si ?_))
     refine AO (AZ hg ?_)
     refine Ev si (.bool _) ?_
     exact pE ⟨_, St.Ao _ ⟨rfl, rfl, rfl, rfl, by rw [si]; rfl, trivial⟩⟩
    refine CK si (CK si (AZ hg (Eu si (.bool _) ?_)))
    exact pE ⟨_, St.Ao _ ⟨rfl, rfl, rfl, rfl, by rw [si]; rfl, trivial⟩⟩
   rintro _ ⟨J, rfl⟩
   refine Eu hg (.bool _) ?_
   exact pE ⟨_, St.Ao _ ⟨rfl, rfl, rfl, by rw [hg]; rfl, trivial⟩⟩
  rintro _ ⟨J, rfl⟩
  refine pM (.bool _) ?_
  refine Aa (l1 := [_, _, _]) (fun S' => ∃ J, S' = ⟨Ao [(0, .str bd),(3, iv x1),(31, .bool (((decide (c2 ≥ 97) && decide (c2 ≤ 122)) || (decide (c2 ≥ 48) && decide (c2 ≤ 57))) || (c2 == 95)))] J, G⟩) ?_ ?_
  ·refine bc (b := ((decide (c2 ≥ 97) && decide (c2 ≤ 122)) || (decide (c2 ≥ 48) && decide (c2 ≤ 57)))) ?_ ?_ <;> intro hg
   ·refine CK hg (CK hg (Ev hg (.bool _) ?_))
    exact pE ⟨_, St.Ao _ ⟨rfl, rfl, by rw [hg]; rfl, trivial⟩⟩
   refine AZ hg (pM (.int _ _) (AZ hg ?_))
   refine AO ?_
   refine Eu hg (.bool _) ?_
   exact pE ⟨_, St.Ao _ ⟨rfl, rfl, by rw [hg]; rfl, trivial⟩⟩
  rintro _ ⟨J, rfl⟩
  refine pU (pg (As hk ?_ ?_)) <;> intro hk
  ·refine sr (pA (.bool _) (pg (Ax (br (gr (gr (br (gr (have hk := lx se hk; ?_)))))))))
   cases hk; exact Ah hO
  refine Av (bn (gn (Cj (pM (.int _ _) ?_))))
  refine AO ?_
  refine pA (.int _ _) (pg ?_)
  cases hk; exact ⟨_, rfl, _, _, hO, sh⟩
 refine Dh (ge (ge (be (gn (have hk := lx se hk; sr (pM (.str _) ?_))))))
 refine BE jY ?_
 refine AO ?_
 refine pM (.bool _) ?_
 refine Aa (l1 := [_, _, _, _]) (fun S' => ∃ J, S' = ⟨Ao [(40, .bool (decide ((bd.size : Int) ≥ 1) && decide ((bd.size : Int) ≤ 20)))] J, G⟩) ?_ ?_
 ·refine bc (b := decide ((bd.size : Int) ≥ 1)) ?_ ?_ <;> intro hg
  ·refine AZ hg (pM (.str _) (AZ hg ?_))
   refine BE jY (AZ hg ?_)
   refine AO ?_
   refine Ev hg (.bool _) ?_
   exact pE ⟨_, St.Ao _ ⟨by rw [hg]; rfl, trivial⟩⟩
  refine CK hg (CK hg (CK hg (Eu hg (.bool _) ?_)))
  exact pE ⟨_, St.Ao _ ⟨by rw [hg]; rfl, trivial⟩⟩
 rintro _ ⟨J, rfl⟩
 refine pA (.bool _) (pg (Ax ?_))
 cases hk; exact Ah hO
def Z5 (da : Int) (bw : Int) (dc : Int) : Option Bool :=
 some (decide (da ≥ bw) && decide (da ≤ dc))
theorem HR (hk : Z5 da bw dc = some r) (sn : 0 < lk.length := by simp) : Aw dp hh 42 [iv da, iv bw, iv dc] H lk = some (.bool r, H) := by
 refine AH Tryz.func42 rfl Tryz.ntmps42 Tryz.results42 rfl rfl fun hO => ?_
 unfold Z5 at hk
 refine sr (pA (.bool _) (pg (sr ?_)))
 refine pM (.int _ _) ?_
 refine pM (.int _ _) ?_
 refine AO ?_
 refine pM (.bool _) ?_
 refine Aa (l1 := [_, _, _, _]) (fun S' => ∃ J, S' = ⟨Ao [(14, .bool (decide (da ≥ bw) && decide (da ≤ dc)))] J, H⟩) ?_ ?_
 ·refine bc (b := decide (da ≥ bw)) ?_ ?_ <;> intro hg
  ·refine AZ hg (pM (.int _ _) (AZ hg ?_))
   refine pM (.int _ _) (AZ hg ?_)
   refine AO ?_
   refine Ev hg (.bool _) ?_
   exact pE ⟨_, St.Ao _ ⟨by rw [hg]; rfl, trivial⟩⟩
  refine CK hg (CK hg (CK hg (Eu hg (.bool _) ?_)))
  exact pE ⟨_, St.Ao _ ⟨by rw [hg]; rfl, trivial⟩⟩
 rintro _ ⟨J, rfl⟩
 refine pA (.bool _) (pg (Ax ?_))
 cases hk; exact Ah hO
def bQ (af : Bq) (bj : Ac) : Option Bool :=
 ((Z5 bj.A1 (0:Int) (AN ((af.A3.length : Int) - 1))).bind fun v3 => ((bif v3 then ((Z5 bj.BI (0:Int) (1:Int)).bind fun v5 => some v5) else some false).bind fun t4 => some t4))
theorem bR (hk : bQ af bj = some r) (sn : 0 < lk.length := by simp) : Aw dp hh 277 [.agg [A0 l1 0 af.A3, A0 l2 m3 af.A4], .agg [iv bj.A1, iv bj.BI]] H lk = some (.bool r, H) := by
 refine AH Tryz.func277 rfl Tryz.ntmps277 Tryz.results277 rfl rfl fun hO => ?_
 unfold bQ at hk
 refine sr (C0 (cs := [_, _]) hO CB (fun b1 G hO => ?_))
 refine C0 (cs := [_, _]) hO AS (fun b2 G hO => ?_)
 refine pA (.bool _) (pg (sr ?_))
 refine B4 Dk hO 0 (.int _ _) B5 ?_
 refine B4 D0 hO 1 (.lit _ _ _) Gd ?_
 refine BE Km ?_
 refine AO (bk hk fun v3 zi hk => ?_)
 refine Ae (fun _ => HR zi) ?_
 refine pM (.bool _) (bk hk fun t4 ht hk => ?_)
 refine Aa (l1 := [_, _, _, _]) (fun S' => ∃ J, S' = ⟨Ao [(16, .bool t4)] J, G⟩) ?_ ?_
 ·refine bc (b := v3) ?_ ?_ <;> intro hg
  ·replace hk := ct hg ht
   refine AZ hg (pF EX (AZ hg ?_))
   refine Eg hO 0 (.int _ _) B5 (AZ hg (bk hk fun v5 hv5 hk => ?_))
   refine Ae (fun _ => HR hv5) ?_
   refine Ev hg (.bool _) ?_
   cases hk; exact pE ⟨_, sh⟩
  replace hk := cf hg ht
  refine CK hg (CK hg (CK hg (Eu hg (.bool _) ?_)))
  cases hk; exact pE ⟨_, sh⟩
 rintro _ ⟨J, rfl⟩
 refine pA (.bool _) (pg (Ax ?_))
 cases hk; exact Ah hO
def MF (af : Bq) (cn : Int) (c2 : AG) : Int → Option (Int ⊕ Int) := fun s =>
 (bif decide (s < cn) then ((AR af.A4 s).bind fun ue => (bif (ue.Name.toList == c2.Name.toList) then ((some (4:Int)).map Sum.inr) else some (.inl (AN (s + 1))))) else ((some (0:Int)).map Sum.inr))
def ME (af : Bq) (cn : Int) (c2 : AG) : Int → Option (Int ⊕ Int) := fun s =>
 (bif decide (s < (c2.Ends.length : Int)) then ((AR c2.Ends s).bind fun c6 => ((bQ af c6).bind fun v8 => (bif !v8 then ((some (3:Int)).map Sum.inr) else some (.inl (AN (s + 1)))))) else ((bif decide (c2.Kind < 3) then (bif !(c2.Name.toList == ({ data := #[] } : ByteArray).toList) then some (4:Int) else some (0:Int)) else ((Vu c2.Name).bind fun v9 => (bif !v9 then some (4:Int) else (AQ (MF af cn c2) ((0:Int)))))).map Sum.inr))
def bJ (af : Bq) (cn : Int) : Option Int :=
 ((AR af.A4 cn).bind fun c2 => ((Z5 c2.Kind (1:Int) (4:Int)).bind fun v4 => (bif (!v4 || ((c2.Ends.length : Int) != c2.Kind)) then some (3:Int) else (AQ (ME af cn c2) ((0:Int))))))
theorem bK (hk : bJ af cn = some r) (sn : 0 < lk.length := by simp) : Aw dp hh 264 [.agg [A0 l1 0 af.A3, A0 l2 m3 af.A4], iv cn] H lk = some (iv r, H) := by
 refine AH Tryz.func264 rfl Tryz.ntmps264 Tryz.results264 rfl rfl fun hO => ?_
 unfold bJ at hk
 refine sr (C0 (cs := [_, _]) hO CB (fun b1 G hO => ?_))
 refine pA (.int _ _) (pg (sr ?_))
 refine B4 DK hO 0 (.lit _ _ _) HF ?_
 refine pM (.int _ _) (bk hk fun c2 tv hk => ?_)
 refine pX tv HA BY ?_
 refine CQ (.agg [_, _, _]) (EA (lm := m3) (off := 0) tv I5 BY) (C9 hO BY Ji (fun b3 G hO => ?_))
 refine DR (xs := [_, _, _]) hO 0 BY rfl (fun G hO => pg (AU (sr ?_)))
 refine B4 DE hO 0 (.int _ _) B5 (bk hk fun v4 uq hk => ?_)
 refine Ae (fun _ => HR uq) ?_
 refine pU ?_
 refine pM (.bool _) ?_
 refine Aa (l1 := [_, _, _, _, _, _, _]) (fun S' => ∃ J, S' = ⟨Ao [(1, iv cn),(2, .ptr b1 0),(5, .ptr b3 0),(25, .bool (!v4 || ((c2.Ends.length : Int) != c2.Kind)))] J, G⟩) ?_ ?_
 ·refine bc (b := !v4) ?_ ?_ <;> intro hg
  ·repeat refine CK hg ?_
   refine Ev hg (.bool _) ?_
   exact pE ⟨_, St.Ao _ ⟨rfl, rfl, rfl, by rw [hg]; rfl, trivial⟩⟩
  refine AZ hg (pF Ct (AZ hg ?_))
  refine Eg hO 0 (.lit _ _ _) Ew (AZ hg ?_)
  refine BE HM (AZ hg ?_)
  refine pF DE (AZ hg ?_)
  refine Eg hO 0 (.int _ _) B5 (AZ hg ?_)
  refine AO ?_
  refine Eu hg (.bool _) ?_
  exact pE ⟨_, St.Ao _ ⟨rfl, rfl, rfl, by rw [hg]; rfl, trivial⟩⟩
 rintro _ ⟨J, rfl⟩
 refine pg (As hk ?_ ?_) <;> intro hk
 ·refine sr (pA (.int _ _) (pg (Ax (gr ?_))))
  cases hk; exact Ah hO
 refine Av (gn (AU (sr (B4 Ct hO 0 (.lit _ _ _) Ew ?_))))
 refine BE HM ?_
 refine pM (.int _ _) (pg (Bn ?_))
 refine AE (F := ME af cn c2) (fun s S' => ∃ J G, A6 H G [.Au b3 (.cells 3 [iv c2.Kind, .str c2.Name, A0 m3 0 c2.Ends]), .Au b1 (.cells 2 [A0 l1 0 af.A3, A0 l2 m3 af.A4])] ∧ S' = ⟨Ao [(1, iv cn),(2, .ptr b1 0),(5, .ptr b3 0),(27, A0 m3 0 c2.Ends),(28, iv (c2.Ends.length : Int)),(29, iv s)] J, G⟩) hk ⟨_, _, hO, sh⟩ ?_
 rintro x5 _ y1 ⟨J, G, hO, rfl⟩ hk se
 refine sr (AO (pg (AU (As hk ?_ ?_)))) <;> intro hk
 ·refine Av (gn (AU (Bn (sr (bk hk fun c6 xo hk => pX xo CV AS ?_)))))
  refine CQ (.agg [_, _]) (EA (lm := 0) (off := 0) xo Br AS) (C9 hO AS Cw (fun b7 G hO => ?_))
  refine DR (xs := [_, _]) hO 0 AS rfl (fun G hO => pg (sr ?_))
  refine Eh hO 2 [_, _] E4 CB ?_
  refine Eh hO 0 [_, _] Br AS (bk hk fun v8 hv8 hk => ?_)
  refine Ae (fun _ => bR hv8) ?_
  refine pU (pg (As hk ?_ ?_)) <;> intro hk
  ·refine sr (pA (.int _ _) (pg (Ax (br (gr (gr (br (gr (have hk := lx se hk; ?_)))))))))
   cases hk; exact Ah hO
  refine Av (bn (gn (Cj (AO ?_))))
  refine pM (.int _ _) (pg ?_)
  cases hk; exact ⟨_, rfl, _, _, (pk hO [1, 2]), sh⟩
 refine Dh (ge (ge (be (gn (have hk := lx se hk; AU (sr (B4 DE hO 0 (.int _ _) B5 ?_)))))))
 refine AO (pg (As hk ?_ ?_)) <;> intro hk
 ·refine AU (sr (B4 Fq hO 0 (.str _) Kx ?_))
  refine pB (a := .str _) (b := .str _) (pg (As hk ?_ ?_)) <;> intro hk
  ·refine sr (pA (.int _ _) (pg (Ax (gr (gr ?_)))))
   cases hk; exact Ah hO
  refine Av (gn (sr (pA (.int _ _) (pg (Ax (gr ?_))))))
  cases hk; exact Ah hO
 refine Av (gn (AU (sr (B4 Fq hO 0 (.str _) Kx (bk hk fun v9 hv9 hk => ?_)))))
 refine Ae (fun _ => PK hv9) ?_
 refine pU (pg (As hk ?_ ?_)) <;> intro hk
 ·refine sr (pA (.int _ _) (pg (Ax (gr ?_))))
  cases hk; exact Ah hO
 refine Av (gn (AU (sr (pA (.int _ _) (pg (Bn ?_))))))
 refine AE (F := MF af cn c2) (fun s S' => ∃ J G, A6 H G [.Au b3 (.cells 3 [iv c2.Kind, .str c2.Name, A0 m3 0 c2.Ends]), .Au b1 (.cells 2 [A0 l1 0 af.A3, A0 l2 m3 af.A4])] ∧ S' = ⟨Ao [(1, iv cn),(2, .ptr b1 0),(5, .ptr b3 0),(8, iv s)] J, G⟩) hk ⟨_, _, hO, sh⟩ ?_
 rintro x10 _ y1 ⟨J, G, hO, rfl⟩ hk se
 refine AU (sr (pM (.int _ _) ?_))
 refine pM (.int _ _) ?_
 refine AO (pg (As hk ?_ ?_)) <;> intro hk
 ·refine Av (gn (AU (Bn (AU (GC [1,3,5,7,9,11,13,15,16] [_,_,_,_,_,_,_,_,_] ?_)))))
  refine B4 DK hO 1 (.lit _ _ _) HF ?_
  refine pM (.int _ _) (bk hk fun ue tq hk => ?_)
  refine pX tq HA BY ?_
  refine pF Fq ?_
  refine CQ (.str _) (Gj (lm := m3) (off := 1) tq Kx) ?_
  refine B4 Fq hO 0 (.str _) Kx ?_
  refine pB (a := .str _) (b := .str _) (pg (As hk ?_ ?_)) <;> intro hk
  ·refine sr (pA (.int _ _) (pg (Ax (br (gr (gr (br (gr (have hk := lx se hk; ?_)))))))))
   cases hk; exact Ah hO
  refine Av (bn (gn (Cj (pM (.int _ _) ?_))))
  refine AO ?_
  refine pA (.int _ _) (pg ?_)
  cases hk; exact ⟨_, rfl, _, _, hO, sh⟩
 refine Dh (ge (ge (be (gn (have hk := lx se hk; sr (pA (.int _ _) (pg (Ax ?_))))))))
 cases hk; exact Ah hO
def OU (x8 : Int) (x9 : Int) : Option ((Int × Int) ⊕ ((Int × Int) ⊕ Int)) :=
 some (.inl (x9, AN (x8 + 1)))
def OT (bj : Ac) (x4 : Int) (c5 : AG) : (Int × Int) → Option ((Int × Int) ⊕ ((Int × Int) ⊕ Int)) := fun s =>
 (bif decide (s.2 < (c5.Ends.length : Int)) then ((AR c5.Ends s.2).bind fun ss => (bif ((ss.A1 == bj.A1) && ((ss.BI == bj.BI) && true)) then (OU s.2 (AN (s.1 + 1))) else (OU s.2 s.1))) else ((some (.inl (s.1, AN (x4 + 1)))).map Sum.inr))
def OS (af : Bq) (bj : Ac) : (Int × Int) → Option ((Int × Int) ⊕ Int) := fun s =>
 (bif decide (s.2 < (af.A4.length : Int)) then ((AR af.A4 s.2).bind fun c5 => (AQ (OT bj s.2 c5) (s.1, (0:Int)))) else ((some s.1).map Sum.inr))
def bL (af : Bq) (bj : Ac) : Option Int :=
 (AQ (OS af bj) ((0:Int), (0:Int)))
theorem bM (hk : bL af bj = some r) (sn : 0 < lk.length := by simp) : Aw dp hh 265 [.agg [A0 l1 0 af.A3, A0 l2 m3 af.A4], .agg [iv bj.A1, iv bj.BI]] H lk = some (iv r, H) := by
 refine AH Tryz.func265 rfl Tryz.ntmps265 Tryz.results265 rfl rfl fun hO => ?_
 unfold bL at hk
 refine sr (C0 (cs := [_, _]) hO CB (fun b1 G hO => ?_))
 refine C0 (cs := [_, _]) hO AS (fun b2 G hO => ?_)
 refine pA (.int _ _) (pg (sr ?_))
 refine pA (.int _ _) (pg (AU (sr ?_)))
 refine B4 DK hO 1 (.lit _ _ _) HF ?_
 refine BE NO ?_
 refine pM (.int _ _) (pg (Bn ?_))
 refine AE (F := OS af bj) (fun s S' => ∃ J G, A6 H G [.Au b2 (.cells 2 [iv bj.A1, iv bj.BI])] ∧ S' = ⟨Ao [(3, .ptr b2 0),(5, iv s.1),(11, A0 l2 m3 af.A4),(12, iv (af.A4.length : Int)),(13, iv s.2)] J, G⟩) hk ⟨_, _, (pk hO [0]), sh⟩ ?_
 rintro ⟨x3, x4⟩ _ y1 ⟨J, G, hO, rfl⟩ hk se
 refine sr (AO (pg (AU (As hk ?_ ?_)))) <;> intro hk
 ·refine Av (gn (AU (Bn (sr (bk hk fun c5 tx hk => pX tx HA BY ?_)))))
  refine CQ (.agg [_, _, _]) (EA (lm := m3) (off := 0) tx I5 BY) (C9 hO BY Ji (fun b6 G hO => ?_))
  refine DR (xs := [_, _, _]) hO 0 BY rfl (fun G hO => pg (sr ?_))
  refine B4 Ct hO 0 (.lit _ _ _) Ew ?_
  refine BE HM ?_
  refine pM (.int _ _) (pg (Bn ?_))
  refine AE (F := OT bj x4 c5) (fun s S' => ∃ J G, A6 H G [.Au b2 (.cells 2 [iv bj.A1, iv bj.BI])] ∧ S' = ⟨Ao [(3, .ptr b2 0),(5, iv s.1),(11, A0 l2 m3 af.A4),(12, iv (af.A4.length : Int)),(13, iv x4),(18, A0 m3 0 c5.Ends),(19, iv (c5.Ends.length : Int)),(20, iv s.2)] J, G⟩) hk ⟨_, _, (pk hO [1]), sh⟩ ?_
  rintro ⟨x7, x8⟩ _ y2 ⟨J, G, hO, rfl⟩ hk wj
  refine sr (AO (pg (AU (As hk ?_ ?_)))) <;> intro hk
  ·refine Av (gn (CX (fun S' => ∃ x9 J G, OU x8 x9 = some y2 ∧ A6 H G [.Au b2 (.cells 2 [iv bj.A1, iv bj.BI])] ∧ S' = ⟨Ao [(3, .ptr b2 0),(5, iv x9),(11, A0 l2 m3 af.A4),(12, iv (af.A4.length : Int)),(13, iv x4),(18, A0 m3 0 c5.Ends),(19, iv (c5.Ends.length : Int)),(20, iv x8)] J, G⟩) ?_ ?_))
   ·refine Bn (sr (bk hk fun ss sy hk => pX sy CV AS ?_))
    refine CQ (.agg [_, _]) (EA (lm := 0) (off := 0) sy Br AS) (C9 hO AS Cw (fun b11 G hO => ?_))
    refine DR (xs := [_, _]) hO 0 AS rfl (fun G hO => pg (sr ?_))
    refine Eh hO 0 [_, _] Br AS ?_
    refine Eh hO 1 [_, _] Br AS ?_
    refine nI Xh (Tp (Tq _ _ _) (Tp (Tq _ _ _) (rfl))) (pg (As hk ?_ ?_)) <;> intro hk
    ·refine Cj (pM (.int _ _) ?_)
     refine AO ?_
     refine pA (.int _ _) (pE (bn (gn ?_)))
     exact ⟨AN (x7 + 1), _, _, hk, (pk hO [1]), sh⟩
    exact Av (bn (gn (⟨x7, _, _, hk, (pk hO [1]), sh⟩)))
   rintro _ ⟨x9, J, G, hk, hO, rfl⟩
   refine Cj (AO ?_)
   refine pM (.int _ _) (pg ?_)
   cases hk; exact ⟨_, rfl, _, _, hO, sh⟩
  refine Dh (ge (ge (be (bn (gn (have hk := lx wj hk; Cj (AO ?_)))))))
  refine pM (.int _ _) (pg ?_)
  cases hk; exact ⟨_, rfl, _, _, hO, sh⟩
 refine Dh (ge (ge (be (gn (have hk := lx se hk; sr (pM (.int _ _) ?_))))))
 refine pA (.int _ _) (pg (Ax ?_))
 cases hk; exact Ah hO
def M9 (af : Bq) (x3 : Int) (c4 : A1) : Int → Option (Int ⊕ (Int ⊕ BW)) := fun s =>
 (bif decide (s < x3) then ((AR af.A3 s).bind fun xc => (bif (xc.Name.toList == c4.Name.toList) then (((some (⟨(2:Int), x3⟩ : BW)).map Sum.inr).map Sum.inr) else some (.inl (AN (s + 1))))) else ((some (.inl (AN (x3 + 1)))).map Sum.inr))
def JG (af : Bq) (vr : Int) : Int → Option (Int ⊕ (Int ⊕ BW)) := fun s =>
 (bif decide (s < (af.A4.length : Int)) then ((bJ af s).bind fun v17 => (bif (v17 == vr) then (((some (⟨vr, s⟩ : BW)).map Sum.inr).map Sum.inr) else some (.inl (AN (s + 1))))) else ((some (.inl (AN (vr + 1)))).map Sum.inr))
def OQ (af : Bq) (x18 : Int) : Int → Option (Int ⊕ (Int ⊕ BW)) := fun s =>
 (bif decide (s < 2) then ((bL af (⟨x18, s⟩ : Ac)).bind fun v20 => (bif (v20 != 1) then (((some (⟨(5:Int), x18⟩ : BW)).map Sum.inr).map Sum.inr) else some (.inl (AN (s + 1))))) else ((some (.inl (AN (x18 + 1)))).map Sum.inr))
def KO (af : Bq) : Int → Option (Int ⊕ BW) := fun s =>
 (bif decide (s < (af.A3.length : Int)) then (AQ (OQ af s) ((0:Int))) else ((some (⟨0, 0⟩ : BW)).map Sum.inr))
def MA (af : Bq) : Int → Option (Int ⊕ BW) := fun s =>
 (bif decide (s ≤ 4) then (AQ (JG af s) ((0:Int))) else ((AQ (KO af) ((0:Int))).map Sum.inr))
def M8 (af : Bq) : Int → Option (Int ⊕ BW) := fun s =>
 (bif decide (s < (af.A3.length : Int)) then ((AR af.A3 s).bind fun c4 => ((Vu c4.Name).bind fun v6 => ((bif !v6 then some true else ((Z5 c4.Bo (1:Int) (10000000:Int)).bind fun v8 => some (!v8))).bind fun t7 => ((bif t7 then some true else ((Z5 c4.Cc (1:Int) (10000:Int)).bind fun v10 => some (!v10))).bind fun t9 => ((bif t9 then some true else ((Z5 c4.DM (1:Int) (1000:Int)).bind fun v12 => some (!v12))).bind fun t11 => (bif t11 then ((some (⟨(2:Int), s⟩ : BW)).map Sum.inr) else (AQ (M9 af s c4) ((0:Int))))))))) else ((AQ (MA af) ((3:Int))).map Sum.inr))
def aW (af : Bq) : Option BW :=
 (bif ((((af.A3.length : Int) == 0) || decide ((af.A3.length : Int) > 100)) || decide ((af.A4.length : Int) > 120)) then some (⟨(1:Int), 0⟩ : BW) else (AQ (M8 af) ((0:Int))))
theorem aX (hk : aW af = some r) (sn : 0 < lk.length := by simp) : Aw dp hh 239 [.agg [A0 l1 0 af.A3, A0 l2 m3 af.A4]] H lk = some (.agg [iv r.Code, iv r.At], H) := by
 refine AH Tryz.func239 rfl Tryz.ntmps239 Tryz.results239 rfl rfl fun hO => ?_
 unfold aW at hk
 refine sr (C0 (cs := [_, _]) hO CB (fun b1 G hO => C9 hO Bj DU (fun b2 G hO => pg (AU (sr ?_)))))
 refine B4 D0 hO 1 (.lit _ _ _) Gd ?_
 refine BE Km ?_
 refine AO ?_
 refine pM (.bool _) ?_
 refine Aa (l1 := [_, _, _, _, _]) (fun S' => ∃ J, S' = ⟨Ao [(1, .ptr b1 0),(2, .ptr b2 0),(19, .bool (((af.A3.length : Int) == 0) || decide ((af.A3.length : Int) > 100)))] J, G⟩) ?_ ?_
 ·refine bc (b := ((af.A3.length : Int) == 0)) ?_ ?_ <;> intro hg
  ·repeat refine CK hg ?_
   refine Ev hg (.bool _) ?_
   exact pE ⟨_, St.Ao _ ⟨rfl, rfl, by rw [hg]; rfl, trivial⟩⟩
  refine AZ hg (pF D0 (AZ hg ?_))
  refine Eg hO 1 (.lit _ _ _) Gd (AZ hg ?_)
  refine BE Km (AZ hg ?_)
  refine AO ?_
  refine Eu hg (.bool _) ?_
  exact pE ⟨_, St.Ao _ ⟨rfl, rfl, by rw [hg]; rfl, trivial⟩⟩
 rintro _ ⟨J, rfl⟩
 refine pM (.bool _) ?_
 refine Aa (l1 := [_, _, _, _, _]) (fun S' => ∃ J, S' = ⟨Ao [(1, .ptr b1 0),(2, .ptr b2 0),(25, .bool ((((af.A3.length : Int) == 0) || decide ((af.A3.length : Int) > 100)) || decide ((af.A4.length : Int) > 120)))] J, G⟩) ?_ ?_
 ·refine bc (b := (((af.A3.length : Int) == 0) || decide ((af.A3.length : Int) > 100))) ?_ ?_ <;> intro hg
  ·repeat refine CK hg ?_
   refine Ev hg (.bool _) ?_
   exact pE ⟨_, St.Ao _ ⟨rfl, rfl, by rw [hg]; rfl, trivial⟩⟩
  refine AZ hg (pF DK (AZ hg ?_))
  refine Eg hO 1 (.lit _ _ _) HF (AZ hg ?_)
  refine BE NO (AZ hg ?_)
  refine AO ?_
  refine Eu hg (.bool _) ?_
  exact pE ⟨_, St.Ao _ ⟨rfl, rfl, by rw [hg]; rfl, trivial⟩⟩
 rintro _ ⟨J, rfl⟩
 refine pg (As hk ?_ ?_) <;> intro hk
 ·refine sr (G9 [_, _] DU EJ ?_)
  refine DR (xs := [_, _]) hO 0 Bj rfl (fun G hO => pg (Ax (gr ?_)))
  replace hk := dv hk; subst hk; exact Cv hO (C8 (n := 2) (BV (Af _ _) (BV (Af _ _) (Dm)))) (EW hO 0 [_, _] Ed Bj CC)
 refine Av (gn (AU (sr (B4 D0 hO 1 (.lit _ _ _) Gd ?_))))
 refine BE Km ?_
 refine pM (.int _ _) (pg (Bn ?_))
 refine AE (F := M8 af) (fun s S' => ∃ J G, A6 H G [.Au b2 (.cells 2 [iv 0, iv 0]), .Au b1 (.cells 2 [A0 l1 0 af.A3, A0 l2 m3 af.A4])] ∧ S' = ⟨Ao [(1, .ptr b1 0),(2, .ptr b2 0),(28, A0 l1 0 af.A3),(29, iv (af.A3.length : Int)),(30, iv s)] J, G⟩) hk ⟨_, _, hO, sh⟩ ?_
 rintro x3 _ y1 ⟨J, G, hO, rfl⟩ hk se
 refine sr (AO (pg (AU (As hk ?_ ?_)))) <;> intro hk
 ·refine Av (gn (AU (Bn (sr (pM (.int _ _) (bk hk fun c4 te hk => ?_))))))
  refine pX te IB Cp ?_
  refine CQ (.agg [_, _, _, _]) (EA (lm := 0) (off := 0) te R7 Cp) (C9 hO Cp VC (fun b5 G hO => ?_))
  refine pA (.int _ _) ?_
  refine DR (xs := [_, _, _, _]) hO 0 Cp rfl (fun G hO => pg (AU (sr ?_)))
  refine B4 Gn hO 0 (.str _) Kx (bk hk fun v6 hv6 hk => ?_)
  refine Ae (fun _ => PK hv6) ?_
  refine pU ?_
  refine pM (.bool _) (bk hk fun t7 ht hk => ?_)
  refine Aa (l1 := [_, _, _, _, _]) (fun S' => ∃ J, S' = ⟨Ao [(1, .ptr b1 0),(2, .ptr b2 0),(3, iv x3),(4, .ptr b5 0),(28, A0 l1 0 af.A3),(29, iv (af.A3.length : Int)),(30, iv x3),(44, .bool t7)] J, G⟩) ?_ ?_
  ·refine bc (b := !v6) ?_ ?_ <;> intro hg
   ·replace hk := ct hg ht
    repeat refine CK hg ?_
    refine Ev hg (.bool _) ?_
    cases hk; exact pE ⟨_, sh⟩
   replace hk := cf hg ht
   refine AZ hg (pF Dj (AZ hg ?_))
   refine Eg hO 0 (.int _ _) B5 (AZ hg (bk hk fun v8 hv8 hk => ?_))
   refine Ae (fun _ => HR hv8) (AZ hg ?_)
   refine pU ?_
   refine Eu hg (.bool _) ?_
   cases hk; exact pE ⟨_, sh⟩
  rintro _ ⟨J, rfl⟩
  refine pM (.bool _) (bk hk fun t9 ht hk => ?_)
  refine Aa (l1 := [_, _, _, _, _]) (fun S' => ∃ J, S' = ⟨Ao [(1, .ptr b1 0),(2, .ptr b2 0),(3, iv x3),(4, .ptr b5 0),(28, A0 l1 0 af.A3),(29, iv (af.A3.length : Int)),(30, iv x3),(50, .bool t9)] J, G⟩) ?_ ?_
  ·refine bc (b := t7) ?_ ?_ <;> intro hg
   ·replace hk := ct hg ht
    repeat refine CK hg ?_
    refine Ev hg (.bool _) ?_
    cases hk; exact pE ⟨_, sh⟩
   replace hk := cf hg ht
   refine AZ hg (pF JY (AZ hg ?_))
   refine Eg hO 0 (.int _ _) B5 (AZ hg (bk hk fun v10 hv10 hk => ?_))
   refine Ae (fun _ => HR hv10) (AZ hg ?_)
   refine pU ?_
   refine Eu hg (.bool _) ?_
   cases hk; exact pE ⟨_, sh⟩
  rintro _ ⟨J, rfl⟩
  refine pM (.bool _) (bk hk fun t11 ht hk => ?_)
  refine Aa (l1 := [_, _, _, _, _]) (fun S' => ∃ J, S' = ⟨Ao [(1, .ptr b1 0),(2, .ptr b2 0),(3, iv x3),(4, .ptr b5 0),(28, A0 l1 0 af.A3),(29, iv (af.A3.length : Int)),(30, iv x3),(56, .bool t11)] J, G⟩) ?_ ?_
  ·refine bc (b := t9) ?_ ?_ <;> intro hg
   ·replace hk := ct hg ht
    repeat refine CK hg ?_
    refine Ev hg (.bool _) ?_
    cases hk; exact pE ⟨_, sh⟩
   replace hk := cf hg ht
   refine AZ hg (pF JZ (AZ hg ?_))
   refine Eg hO 0 (.int _ _) B5 (AZ hg (bk hk fun v12 hv12 hk => ?_))
   refine Ae (fun _ => HR hv12) (AZ hg ?_)
   refine pU ?_
   refine Eu hg (.bool _) ?_
   cases hk; exact pE ⟨_, sh⟩
  rintro _ ⟨J, rfl⟩
  refine pg (As hk ?_ ?_) <;> intro hk
  ·refine sr (pM (.int _ _) ?_)
   refine G9 [_, _] DU EJ ?_
   refine DR (xs := [_, _]) hO 1 Bj rfl (fun G hO => pg (Ax (gr (br (gr (gr (br (gr (have hk := lx se hk; ?_)))))))))
   replace hk := dv hk; subst hk; exact Cv hO (C8 (n := 2) (BV (Af _ _) (BV (Af _ _) (Dm)))) (EW hO 1 [_, _] Ed Bj CC)
  refine Av (gn (sr (pA (.int _ _) (pg (Bn ?_)))))
  refine AE (F := M9 af x3 c4) (fun s S' => ∃ J G, A6 H G [.Au b5 (.cells 4 [.str c4.Name, iv c4.Bo, iv c4.Cc, iv c4.DM]), .Au b2 (.cells 2 [iv 0, iv 0]), .Au b1 (.cells 2 [A0 l1 0 af.A3, A0 l2 m3 af.A4])] ∧ S' = ⟨Ao [(1, .ptr b1 0),(2, .ptr b2 0),(3, iv x3),(4, .ptr b5 0),(5, iv s),(28, A0 l1 0 af.A3),(29, iv (af.A3.length : Int)),(30, iv x3)] J, G⟩) hk ⟨_, _, hO, sh⟩ ?_
  rintro xd _ y2 ⟨J, G, hO, rfl⟩ hk wj
  refine AU (sr (pM (.int _ _) ?_))
  refine pM (.int _ _) ?_
  refine AO (pg (As hk ?_ ?_)) <;> intro hk
  ·refine Av (gn (AU (Bn (AU (GC [1,3,5,7,9,11,13,15,16] [_,_,_,_,_,_,_,_,_] ?_)))))
   refine B4 D0 hO 2 (.lit _ _ _) Gd ?_
   refine pM (.int _ _) (bk hk fun xc ur hk => ?_)
   refine pX ur IB Cp ?_
   refine pF Gn ?_
   refine CQ (.str _) (Gj (lm := 0) (off := 0) ur Kx) ?_
   refine B4 Gn hO 0 (.str _) Kx ?_
   refine pB (a := .str _) (b := .str _) (pg (As hk ?_ ?_)) <;> intro hk
   ·refine sr (pM (.int _ _) ?_)
    refine G9 [_, _] DU EJ ?_
    refine DR (xs := [_, _]) hO 1 Bj rfl (fun G hO => pg (Ax (br (gr (gr (br (br (gr (gr (br (gr (have hk := lx wj hk; have hk := lx se hk; ?_))))))))))))
    replace hk := dv hk; subst hk; exact Cv hO (C8 (n := 2) (BV (Af _ _) (BV (Af _ _) (Dm)))) (EW hO 1 [_, _] Ed Bj CC)
   refine Av (bn (gn (Cj (pM (.int _ _) ?_))))
   refine AO ?_
   refine pA (.int _ _) (pg ?_)
   cases hk; exact ⟨_, rfl, _, _, hO, sh⟩
  refine Dh (ge (ge (be (bn (gn (have hk := lx wj hk; Cj (AO ?_)))))))
  refine pM (.int _ _) (pg ?_)
  cases hk; exact ⟨_, rfl, _, _, (pk hO [1, 2]), sh⟩
 refine Dh (ge (ge (be (gn (have hk := lx se hk; AU (sr (pA (.int _ _) (pg (Bn ?_)))))))))
 refine AE (F := MA af) (fun s S' => ∃ J G, A6 H G [.Au b2 (.cells 2 [iv 0, iv 0]), .Au b1 (.cells 2 [A0 l1 0 af.A3, A0 l2 m3 af.A4])] ∧ S' = ⟨Ao [(1, .ptr b1 0),(2, .ptr b2 0),(6, iv s)] J, G⟩) hk ⟨_, _, hO, sh⟩ ?_
 rintro vr _ y1 ⟨J, G, hO, rfl⟩ hk se
 refine AU (sr (pM (.int _ _) ?_))
 refine AO (pg (As hk ?_ ?_)) <;> intro hk
 ·refine Av (gn (AU (Bn (sr (B4 DK hO 1 (.lit _ _ _) HF ?_)))))
  refine BE NO ?_
  refine pM (.int _ _) (pg (Bn ?_))
  refine AE (F := JG af vr) (fun s S' => ∃ J G, A6 H G [.Au b2 (.cells 2 [iv 0, iv 0]), .Au b1 (.cells 2 [A0 l1 0 af.A3, A0 l2 m3 af.A4])] ∧ S' = ⟨Ao [(1, .ptr b1 0),(2, .ptr b2 0),(6, iv vr),(82, iv (af.A4.length : Int)),(83, iv s)] J, G⟩) hk ⟨_, _, hO, sh⟩ ?_
  rintro zc _ y2 ⟨J, G, hO, rfl⟩ hk wj
  refine sr (AO (pg (AU (As hk ?_ ?_)))) <;> intro hk
  ·refine Av (gn (AU (Bn (sr (pM (.int _ _) ?_)))))
   refine pA (.int _ _) (pg (sr ?_))
   refine Eh hO 1 [_, _] E4 CB ?_
   refine pM (.int _ _) (bk hk fun v17 hv17 hk => ?_)
   refine Ae (fun _ => bK hv17) ?_
   refine pM (.int _ _) ?_
   refine AO (pg (As hk ?_ ?_)) <;> intro hk
   ·refine sr (pM (.int _ _) ?_)
    refine pM (.int _ _) ?_
    refine G9 [_, _] DU EJ ?_
    refine DR (xs := [_, _]) hO 0 Bj rfl (fun G hO => pg (Ax (br (gr (gr (br (br (gr (gr (br (gr (have hk := lx wj hk; have hk := lx se hk; ?_))))))))))))
    replace hk := dv hk; subst hk; exact Cv hO (C8 (n := 2) (BV (Af _ _) (BV (Af _ _) (Dm)))) (EW hO 0 [_, _] Ed Bj CC)
   refine Av (bn (gn (Cj (AO ?_))))
   refine pM (.int _ _) (pg ?_)
   cases hk; exact ⟨_, rfl, _, _, hO, sh⟩
  refine Dh (ge (ge (be (bn (gn (have hk := lx wj hk; Cj (pM (.int _ _) ?_)))))))
  refine AO ?_
  refine pA (.int _ _) (pg ?_)
  cases hk; exact ⟨_, rfl, _, _, hO, sh⟩
 refine Dh (ge (ge (be (gn (have hk := lx se hk; AU (sr (B4 D0 hO 1 (.lit _ _ _) Gd ?_)))))))
 refine BE Km ?_
 refine pM (.int _ _) (pg (Bn ?_))
 refine AE (F := KO af) (fun s S' => ∃ J G, A6 H G [.Au b2 (.cells 2 [iv 0, iv 0]), .Au b1 (.cells 2 [A0 l1 0 af.A3, A0 l2 m3 af.A4])] ∧ S' = ⟨Ao [(1, .ptr b1 0),(2, .ptr b2 0),(97, iv (af.A3.length : Int)),(98, iv s)] J, G⟩) hk ⟨_, _, hO, sh⟩ ?_
 rintro x18 _ y1 ⟨J, G, hO, rfl⟩ hk se
 refine sr (AO (pg (AU (As hk ?_ ?_)))) <;> intro hk
 ·refine Av (gn (AU (Bn (sr (pM (.int _ _) ?_)))))
  refine pA (.int _ _) (pg (sr ?_))
  refine pA (.int _ _) (pg (Bn ?_))
  refine AE (F := OQ af x18) (fun s S' => ∃ J G, A6 H G [.Au b2 (.cells 2 [iv 0, iv 0]), .Au b1 (.cells 2 [A0 l1 0 af.A3, A0 l2 m3 af.A4])] ∧ S' = ⟨Ao [(1, .ptr b1 0),(2, .ptr b2 0),(8, iv x18),(9, iv s),(97, iv (af.A3.length : Int)),(98, iv x18)] J, G⟩) hk ⟨_, _, hO, sh⟩ ?_
  rintro x19 _ y2 ⟨J, G, hO, rfl⟩ hk wj
  refine AU (sr (pM (.int _ _) ?_))
  refine AO (pg (As hk ?_ ?_)) <;> intro hk
  ·refine Av (gn (AU (Bn (sr (Eh hO 1 [_, _] E4 CB ?_)))))
   refine pM (.int _ _) ?_
   refine pM (.int _ _) ?_
   refine G9 [_, _] Cw Mm (bk hk fun v20 hv20 hk => ?_)
   refine Ae (fun _ => bM hv20) ?_
   refine AO (pg (As hk ?_ ?_)) <;> intro hk
   ·refine sr (pM (.int _ _) ?_)
    refine G9 [_, _] DU EJ ?_
    refine DR (xs := [_, _]) hO 0 Bj rfl (fun G hO => pg (Ax (br (gr (gr (br (br (gr (gr (br (gr (have hk := lx wj hk; have hk := lx se hk; ?_))))))))))))
    replace hk := dv hk; subst hk; exact Cv hO (C8 (n := 2) (BV (Af _ _) (BV (Af _ _) (Dm)))) (EW hO 0 [_, _] Ed Bj CC)
   refine Av (bn (gn (Cj (pM (.int _ _) ?_))))
   refine AO ?_
   refine pA (.int _ _) (pg ?_)
   cases hk; exact ⟨_, rfl, _, _, hO, sh⟩
  refine Dh (ge (ge (be (bn (gn (have hk := lx wj hk; Cj (AO ?_)))))))
  refine pM (.int _ _) (pg ?_)
  cases hk; exact ⟨_, rfl, _, _, hO, sh⟩
 refine Dh (ge (ge (be (gn (have hk := lx se hk; sr (G9 [_, _] DU EJ ?_))))))
 refine DR (xs := [_, _]) hO 0 Bj rfl (fun G hO => pg (Ax ?_))
 replace hk := dv hk; subst hk; exact Cv hO (C8 (n := 2) (BV (Af _ _) (BV (Af _ _) (Dm)))) (EW hO 0 [_, _] Ed Bj CC)
def Zy (af : Bq) : Option Bool :=
 ((aW af).bind fun v2 => some (v2.Code == 0))
theorem Zz (hk : Zy af = some r) (sn : 0 < lk.length := by simp) : Aw dp hh 173 [.agg [A0 l1 0 af.A3, A0 l2 m3 af.A4]] H lk = some (.bool r, H) := by
 refine AH Tryz.func173 rfl Tryz.ntmps173 Tryz.results173 rfl rfl fun hO => ?_
 unfold Zy at hk
 refine sr (C0 (cs := [_, _]) hO CB (fun b1 G hO => ?_))
 refine pA (.bool _) (pg (sr ?_))
 refine Eh hO 0 [_, _] E4 CB (bk hk fun v2 yo hk => ?_)
 refine Ae (fun _ => aX yo) (C9 hO Bj DU (fun b3 G hO => ?_))
 refine DR (xs := [_, _]) hO 0 Bj rfl (fun G hO => pg (sr ?_))
 refine B4 Xd hO 0 (.int _ _) B5 ?_
 refine AO ?_
 refine pA (.bool _) (pg (Ax ?_))
 cases hk; exact Ah hO
def OH (ah : List AI) (cn : Int) : Int → Option (Int ⊕ Bool) := fun s =>
 (bif decide (s < cn) then ((AR ah s).bind fun c2 => ((AR ah cn).bind fun c4 => (bif ((c2.Name.toList == c4.Name.toList) || (((c2.A1 == c4.A1) && (c2.At == c4.At)) && (c2.Way == c4.Way))) then ((some true).map Sum.inr) else some (.inl (AN (s + 1)))))) else ((some false).map Sum.inr))
def a7 (ah : List AI) (cn : Int) : Option Bool :=
 (AQ (OH ah cn) ((0:Int)))
theorem a8 (hk : a7 ah cn = some r) (sn : 0 < lk.length := by simp) : Aw dp hh 175 [A0 l1 0 ah, iv cn] H lk = some (.bool r, H) := by
 refine AH Tryz.func175 rfl Tryz.ntmps175 Tryz.results175 rfl rfl fun hO => ?_
 unfold a7 at hk
 refine sr (pA (.bool _) (pg (AU (sr ?_))))
 refine pA (.int _ _) (pg (Bn ?_))
 refine AE (F := OH ah cn) (fun s S' => ∃ J G, A6 H G [] ∧ S' = ⟨Ao [(0, A0 l1 0 ah),(1, iv cn),(5, iv s)] J, G⟩) hk ⟨_, _, hO, sh⟩ ?_
 rintro x1 _ y1 ⟨J, G, hO, rfl⟩ hk se
 refine AU (sr (pM (.int _ _) ?_))
 refine pM (.int _ _) ?_
 refine AO (pg (As hk ?_ ?_)) <;> intro hk
 ·refine Av (gn (AU (Bn (sr (pM (.lit _ _ _) ?_)))))
  refine pM (.int _ _) (bk hk fun c2 tv hk => ?_)
  refine pX tv GM BF ?_
  refine CQ (.agg [_, _, _, _]) (EA (lm := 0) (off := 0) tv H8 BF) (C9 hO BF HL (fun b3 G hO => ?_))
  refine DR (xs := [_, _, _, _]) hO 0 BF rfl (fun G hO => pg (sr ?_))
  refine pM (.lit _ _ _) ?_
  refine pM (.int _ _) (bk hk fun c4 te hk => ?_)
  refine pX te GM BF ?_
  refine CQ (.agg [_, _, _, _]) (EA (lm := 0) (off := 0) te H8 BF) (C9 hO BF HL (fun b5 G hO => ?_))
  refine DR (xs := [_, _, _, _]) hO 0 BF rfl (fun G hO => pg (sr ?_))
  refine B4 Gl hO 1 (.str _) Kx ?_
  refine B4 Gl hO 0 (.str _) Kx ?_
  refine pB (a := .str _) (b := .str _) ?_
  refine pM (.bool _) ?_
  refine Aa (l1 := [_, _, _, _, _, _, _, _, _, _, _, _, _, _, _, _, _, _, _, _]) (fun S' => ∃ J, S' = ⟨Ao [(0, A0 l1 0 ah),(1, iv cn),(5, iv x1),(46, .bool ((c2.Name.toList == c4.Name.toList) || (((c2.A1 == c4.A1) && (c2.At == c4.At)) && (c2.Way == c4.Way))))] J, G⟩) ?_ ?_
  ·refine bc (b := (c2.Name.toList == c4.Name.toList)) ?_ ?_ <;> intro hg
   ·repeat refine CK hg ?_
    refine E9 (E9 (E9 (E9 (E9 (CK hg (CK hg (E9 (E9 (E9 (E9 (E9 (CK hg (Ev hg (.bool _) ?_)))))))))))))
    exact pE ⟨_, St.Ao _ ⟨rfl, rfl, rfl, by rw [hg]; rfl, trivial⟩⟩
   refine AZ hg (pF DD (AZ hg ?_))
   refine Eg hO 1 (.int _ _) B5 (AZ hg ?_)
   refine pF DD (AZ hg ?_)
   refine Eg hO 0 (.int _ _) B5 (AZ hg ?_)
   refine AO (AZ hg ?_)
   refine pM (.bool _) ?_
   refine Aa (l1 := [_, _, _, _, _, _]) (fun S' => ∃ J, S' = ⟨Ao [(0, A0 l1 0 ah),(1, iv cn),(5, iv x1),(6, .ptr b3 0),(7, .ptr b5 0),(26, .bool (c2.Name.toList == c4.Name.toList)),(38, .bool ((c2.A1 == c4.A1) && (c2.At == c4.At)))] J, G⟩) ?_ ?_
   ·refine bc (b := (c2.A1 == c4.A1)) (fun si => ?_) (fun si => ?_)
    ·refine AZ si (pF CW (AZ si ?_))
     refine Eg hO 1 (.int _ _) B5 (AZ si ?_)
     refine pF CW (AZ si ?_)
     refine Eg hO 0 (.int _ _) B5 (AZ si ?_)
     refine AO (AZ hg ?_)
     refine Ev si (.bool _) ?_
     exact pE ⟨_, St.Ao _ ⟨rfl, rfl, rfl, rfl, rfl, rfl, by rw [si]; rfl, trivial⟩⟩
    repeat refine CK si ?_
    refine AZ hg (Eu si (.bool _) ?_)
    exact pE ⟨_, St.Ao _ ⟨rfl, rfl, rfl, rfl, rfl, rfl, by rw [si]; rfl, trivial⟩⟩
   rintro _ ⟨J, rfl⟩
   refine AZ hg (pM (.bool _) ?_)
   refine Aa (l1 := [_, _, _, _, _, _]) (fun S' => ∃ J, S' = ⟨Ao [(0, A0 l1 0 ah),(1, iv cn),(5, iv x1),(26, .bool (c2.Name.toList == c4.Name.toList)),(45, .bool (((c2.A1 == c4.A1) && (c2.At == c4.At)) && (c2.Way == c4.Way)))] J, G⟩) ?_ ?_
   ·refine bc (b := ((c2.A1 == c4.A1) && (c2.At == c4.At))) (fun si => ?_) (fun si => ?_)
    ·refine AZ si (pF DO (AZ si ?_))
     refine Eg hO 1 (.int _ _) B5 (AZ si ?_)
     refine pF DO (AZ si ?_)
     refine Eg hO 0 (.int _ _) B5 (AZ si ?_)
     refine AO (AZ hg ?_)
     refine Ev si (.bool _) ?_
     exact pE ⟨_, St.Ao _ ⟨rfl, rfl, rfl, rfl, by rw [si]; rfl, trivial⟩⟩
    repeat refine CK si ?_
    refine AZ hg (Eu si (.bool _) ?_)
    exact pE ⟨_, St.Ao _ ⟨rfl, rfl, rfl, rfl, by rw [si]; rfl, trivial⟩⟩
   rintro _ ⟨J, rfl⟩
   refine Eu hg (.bool _) ?_
   exact pE ⟨_, St.Ao _ ⟨rfl, rfl, rfl, by rw [hg]; rfl, trivial⟩⟩
  rintro _ ⟨J, rfl⟩
  refine pg (As hk ?_ ?_) <;> intro hk
  ·refine sr (pA (.bool _) (pg (Ax (br (gr (gr (br (gr (have hk := lx se hk; ?_)))))))))
   cases hk; exact Ah hO
  refine Av (bn (gn (Cj (pM (.int _ _) ?_))))
  refine AO ?_
  refine pA (.int _ _) (pg ?_)
  cases hk; exact ⟨_, rfl, _, _, (pk hO []), sh⟩
 refine Dh (ge (ge (be (gn (have hk := lx se hk; sr (pA (.bool _) (pg (Ax ?_))))))))
 cases hk; exact Ah hO
def Lf (aa : List AI) : Int → Option (Int ⊕ BW) := fun s =>
 (bif decide (s < (aa.length : Int)) then ((a7 aa s).bind fun xl => (bif xl then ((some (⟨(4:Int), s⟩ : BW)).map Sum.inr) else some (.inl (AN (s + 1))))) else ((some (⟨0, 0⟩ : BW)).map Sum.inr))
def Le (af : Bq) (aa : List AI) : Int → Option (Int ⊕ BW) := fun s =>
 (bif decide (s < (aa.length : Int)) then ((AR aa s).bind fun c5 => ((Vu c5.Name).bind fun v7 => ((bif !v7 then some true else ((Z5 c5.A1 (0:Int) (AN ((af.A3.length : Int) - 1))).bind fun v9 => some (!v9))).bind fun t8 => (bif (t8 || ((c5.Way != 1) && (c5.Way != (-1:Int)))) then ((some (⟨(3:Int), s⟩ : BW)).map Sum.inr) else ((AR af.A3 c5.A1).bind fun ss => ((Z5 c5.At (1:Int) (AN (ss.Bo - 1))).bind fun v11 => (bif !v11 then ((some (⟨(3:Int), s⟩ : BW)).map Sum.inr) else some (.inl (AN (s + 1)))))))))) else ((AQ (Lf aa) ((0:Int))).map Sum.inr))
def ZW (af : Bq) (aa : List AI) : Option BW :=
 ((Zy af).bind fun v3 => (bif !v3 then some (⟨(1:Int), 0⟩ : BW) else (bif decide ((aa.length : Int) > 60) then some (⟨(2:Int), 0⟩ : BW) else (AQ (Le af aa) ((0:Int))))))
theorem ZX (hk : ZW af aa = some r) (sn : 0 < lk.length := by simp) : Aw dp hh 107 [.agg [A0 l1 0 af.A3, A0 l2 m3 af.A4], A0 l4 0 aa] H lk = some (.agg [iv r.Code, iv r.At], H) := by
 refine AH Tryz.func107 rfl Tryz.ntmps107 Tryz.results107 rfl rfl fun hO => ?_
 unfold ZW at hk
 refine sr (C0 (cs := [_, _]) hO CB (fun b1 G hO => C9 hO Bj DU (fun b2 G hO => pg (AU (sr ?_)))))
 refine Eh hO 1 [_, _] E4 CB (bk hk fun v3 zi hk => ?_)
 refine Ae (fun _ => Zz zi) ?_
 refine pU (pg (As hk ?_ ?_)) <;> intro hk
 ·refine sr (G9 [_, _] DU EJ ?_)
  refine DR (xs := [_, _]) hO 0 Bj rfl (fun G hO => pg (Ax (gr ?_)))
  replace hk := dv hk; subst hk; exact Cv hO (C8 (n := 2) (BV (Af _ _) (BV (Af _ _) (Dm)))) (EW hO 0 [_, _] Ed Bj CC)
 refine Av (gn (AU (sr (pM (.lit _ _ _) ?_))))
 refine BE KI ?_
 refine AO (pg (As hk ?_ ?_)) <;> intro hk
 ·refine sr (G9 [_, _] DU EJ ?_)
  refine DR (xs := [_, _]) hO 0 Bj rfl (fun G hO => pg (Ax (gr ?_)))
  replace hk := dv hk; subst hk; exact Cv hO (C8 (n := 2) (BV (Af _ _) (BV (Af _ _) (Dm)))) (EW hO 0 [_, _] Ed Bj CC)
 refine Av (gn (AU (sr (pM (.lit _ _ _) ?_))))
 refine BE KI ?_
 refine pM (.int _ _) (pg (Bn ?_))
 refine AE (F := Le af aa) (fun s S' => ∃ J G, A6 H G [.Au b2 (.cells 2 [iv 0, iv 0]), .Au b1 (.cells 2 [A0 l1 0 af.A3, A0 l2 m3 af.A4])] ∧ S' = ⟨Ao [(1, A0 l4 0 aa),(2, .ptr b1 0),(4, .ptr b2 0),(16, A0 l4 0 aa),(17, iv (aa.length : Int)),(18, iv s)] J, G⟩) hk ⟨_, _, hO, sh⟩ ?_
 rintro x4 _ y1 ⟨J, G, hO, rfl⟩ hk se
 refine sr (AO (pg (AU (As hk ?_ ?_)))) <;> intro hk
 ·refine Av (gn (AU (Bn (sr (pM (.int _ _) (bk hk fun c5 tx hk => ?_))))))
  refine pX tx GM BF ?_
  refine CQ (.agg [_, _, _, _]) (EA (lm := 0) (off := 0) tx H8 BF) (C9 hO BF HL (fun b6 G hO => ?_))
  refine pA (.int _ _) ?_
  refine DR (xs := [_, _, _, _]) hO 0 BF rfl (fun G hO => pg (AU (sr ?_)))
  refine B4 Gl hO 0 (.str _) Kx (bk hk fun v7 hv7 hk => ?_)
  refine Ae (fun _ => PK hv7) ?_
  refine pU ?_
  refine pM (.bool _) (bk hk fun t8 ht hk => ?_)
  refine Aa (l1 := [_, _, _, _, _, _, _, _, _]) (fun S' => ∃ J, S' = ⟨Ao [(1, A0 l4 0 aa),(2, .ptr b1 0),(4, .ptr b2 0),(5, iv x4),(6, .ptr b6 0),(16, A0 l4 0 aa),(17, iv (aa.length : Int)),(18, iv x4),(36, .bool t8)] J, G⟩) ?_ ?_
  ·refine bc (b := !v7) ?_ ?_ <;> intro hg
   ·replace hk := ct hg ht
    repeat refine CK hg ?_
    refine Ev hg (.bool _) ?_
    cases hk; exact pE ⟨_, sh⟩
   replace hk := cf hg ht
   refine AZ hg (pF DD (AZ hg ?_))
   refine Eg hO 0 (.int _ _) B5 (AZ hg ?_)
   refine pF D0 (AZ hg ?_)
   refine Eg hO 2 (.lit _ _ _) Gd (AZ hg ?_)
   refine BE Km (AZ hg ?_)
   refine AO (AZ hg (bk hk fun v9 hv9 hk => ?_))
   refine Ae (fun _ => HR hv9) (AZ hg ?_)
   refine pU ?_
   refine Eu hg (.bool _) ?_
   cases hk; exact pE ⟨_, sh⟩
  rintro _ ⟨J, rfl⟩
  refine pM (.bool _) ?_
  refine Aa (l1 := [_, _, _, _, _, _, _, _, _]) (fun S' => ∃ J, S' = ⟨Ao [(1, A0 l4 0 aa),(2, .ptr b1 0),(4, .ptr b2 0),(5, iv x4),(6, .ptr b6 0),(16, A0 l4 0 aa),(17, iv (aa.length : Int)),(18, iv x4),(46, .bool (t8 || ((c5.Way != 1) && (c5.Way != (-1:Int)))))] J, G⟩) ?_ ?_
  ·refine bc (b := t8) ?_ ?_ <;> intro hg
   ·repeat refine CK hg ?_
    refine E9 (E9 (E9 (CK hg (Ev hg (.bool _) ?_))))
    exact pE ⟨_, St.Ao _ ⟨rfl, rfl, rfl, rfl, rfl, rfl, rfl, rfl, by rw [hg]; rfl, trivial⟩⟩
   refine AZ hg (pF DO (AZ hg ?_))
   refine Eg hO 0 (.int _ _) B5 (AZ hg ?_)
   refine AO (AZ hg ?_)
   refine pM (.bool _) ?_
   refine Aa (l1 := [_, _, _, _]) (fun S' => ∃ J, S' = ⟨Ao [(1, A0 l4 0 aa),(2, .ptr b1 0),(4, .ptr b2 0),(5, iv x4),(6, .ptr b6 0),(16, A0 l4 0 aa),(17, iv (aa.length : Int)),(18, iv x4),(37, .bool t8),(45, .bool ((c5.Way != 1) && (c5.Way != (-1:Int))))] J, G⟩) ?_ ?_
   ·refine bc (b := (c5.Way != 1)) (fun si => ?_) (fun si => ?_)
    ·refine AZ si (pF DO (AZ si ?_))
     refine Eg hO 0 (.int _ _) B5 (AZ si ?_)
     refine AO (AZ hg ?_)
     refine Ev si (.bool _) ?_
     exact pE ⟨_, St.Ao _ ⟨rfl, rfl, rfl, rfl, rfl, rfl, rfl, rfl, rfl, by rw [si]; rfl, trivial⟩⟩
    refine CK si (CK si (CK si (AZ hg (Eu si (.bool _) ?_))))
    exact pE ⟨_, St.Ao _ ⟨rfl, rfl, rfl, rfl, rfl, rfl, rfl, rfl, rfl, by rw [si]; rfl, trivial⟩⟩
   rintro _ ⟨J, rfl⟩
   refine Eu hg (.bool _) ?_
   exact pE ⟨_, St.Ao _ ⟨rfl, rfl, rfl, rfl, rfl, rfl, rfl, rfl, by rw [hg]; rfl, trivial⟩⟩
  rintro _ ⟨J, rfl⟩
  refine pg (As hk ?_ ?_) <;> intro hk
  ·refine sr (pM (.int _ _) ?_)
   refine G9 [_, _] DU EJ ?_
   refine DR (xs := [_, _]) hO 1 Bj rfl (fun G hO => pg (Ax (gr (br (gr (gr (br (gr (have hk := lx se hk; ?_)))))))))
   replace hk := dv hk; subst hk; exact Cv hO (C8 (n := 2) (BV (Af _ _) (BV (Af _ _) (Dm)))) (EW hO 1 [_, _] Ed Bj CC)
  refine Av (gn (AU (GC [1,3,5,7,9,11,13,15,17,19,20,22] [_,_,_,_,_,_,_,_,_,_,_,_] ?_)))
  refine B4 CW hO 0 (.int _ _) B5 ?_
  refine B4 D0 hO 2 (.lit _ _ _) Gd ?_
  refine B4 DD hO 0 (.int _ _) B5 (bk hk fun ss sy hk => ?_)
  refine pX sy IB Cp ?_
  refine pF Dj ?_
  refine CQ (.int _ _) (Gj (lm := 0) (off := 1) sy B5) ?_
  refine AO (bk hk fun v11 hv11 hk => ?_)
  refine Ae (fun _ => HR hv11) ?_
  refine pU (pg (As hk ?_ ?_)) <;> intro hk
  ·refine sr (pM (.int _ _) ?_)
   refine G9 [_, _] DU EJ ?_
   refine DR (xs := [_, _]) hO 1 Bj rfl (fun G hO => pg (Ax (br (gr (gr (br (gr (have hk := lx se hk; ?_))))))))
   replace hk := dv hk; subst hk; exact Cv hO (C8 (n := 2) (BV (Af _ _) (BV (Af _ _) (Dm)))) (EW hO 1 [_, _] Ed Bj CC)
  refine Av (bn (gn (Cj (AO ?_))))
  refine pM (.int _ _) (pg ?_)
  cases hk; exact ⟨_, rfl, _, _, (pk hO [1, 2]), sh⟩
 refine Dh (ge (ge (be (gn (have hk := lx se hk; AU (sr (pM (.lit _ _ _) ?_)))))))
 refine BE KI ?_
 refine pM (.int _ _) (pg (Bn ?_))
 refine AE (F := Lf aa) (fun s S' => ∃ J G, A6 H G [.Au b2 (.cells 2 [iv 0, iv 0])] ∧ S' = ⟨Ao [(1, A0 l4 0 aa),(4, .ptr b2 0),(65, iv (aa.length : Int)),(66, iv s)] J, G⟩) hk ⟨_, _, (pk hO [0]), sh⟩ ?_
 rintro x12 _ y1 ⟨J, G, hO, rfl⟩ hk se
 refine sr (AO (pg (AU (As hk ?_ ?_)))) <;> intro hk
 ·refine Av (gn (AU (Bn (sr (pM (.int _ _) ?_)))))
  refine pA (.int _ _) (pg (sr ?_))
  refine pM (.lit _ _ _) ?_
  refine pM (.int _ _) (bk hk fun xl hv13 hk => ?_)
  refine Ae (fun _ => a8 hv13) (pg (As hk ?_ ?_)) <;> intro hk
  ·refine sr (pM (.int _ _) ?_)
   refine G9 [_, _] DU EJ ?_
   refine DR (xs := [_, _]) hO 0 Bj rfl (fun G hO => pg (Ax (br (gr (gr (br (gr (have hk := lx se hk; ?_))))))))
   replace hk := dv hk; subst hk; exact Cv hO (C8 (n := 2) (BV (Af _ _) (BV (Af _ _) (Dm)))) (EW hO 0 [_, _] Ed Bj CC)
  refine Av (bn (gn (Cj (AO ?_))))
  refine pM (.int _ _) (pg ?_)
  cases hk; exact ⟨_, rfl, _, _, hO, sh⟩
 refine Dh (ge (ge (be (gn (have hk := lx se hk; sr (G9 [_, _] DU EJ ?_))))))
 refine DR (xs := [_, _]) hO 0 Bj rfl (fun G hO => pg (Ax ?_))
 replace hk := dv hk; subst hk; exact Cv hO (C8 (n := 2) (BV (Af _ _) (BV (Af _ _) (Dm)))) (EW hO 0 [_, _] Ed Bj CC)
def pJ (af : Bq) (aa : List AI) : Option Bool :=
 ((ZW af aa).bind fun v2 => some (v2.Code == 0))
theorem gP (hk : pJ af aa = some r) (sn : 0 < lk.length := by simp) : Aw dp hh 41 [.agg [A0 l1 0 af.A3, A0 l2 m3 af.A4], A0 l4 0 aa] H lk = some (.bool r, H) := by
 refine AH Tryz.func41 rfl Tryz.ntmps41 Tryz.results41 rfl rfl fun hO => ?_
 unfold pJ at hk
 refine sr (C0 (cs := [_, _]) hO CB (fun b1 G hO => ?_))
 refine pA (.bool _) (pg (sr ?_))
 refine Eh hO 0 [_, _] E4 CB ?_
 refine pM (.lit _ _ _) (bk hk fun v2 yo hk => ?_)
 refine Ae (fun _ => ZX yo) (C9 hO Bj DU (fun b3 G hO => ?_))
 refine DR (xs := [_, _]) hO 0 Bj rfl (fun G hO => pg (sr ?_))
 refine B4 Xd hO 0 (.int _ _) B5 ?_
 refine AO ?_
 refine pA (.bool _) (pg (Ax ?_))
 cases hk; exact Ah hO
def Vz (af : Bq) (av : Int) (au : Int) (ar : Int) : Option Int :=
 (bif (ar == 1) then some au else ((AR af.A3 av).bind fun c2 => some (AN (c2.Bo - au))))
theorem JH (hk : Vz af av au ar = some r) (sn : 0 < lk.length := by simp) : Aw dp hh 44 [.agg [A0 l1 0 af.A3, A0 l2 m3 af.A4], iv av, iv au, iv ar] H lk = some (iv r, H) := by
 refine AH Tryz.func44 rfl Tryz.ntmps44 Tryz.results44 rfl rfl fun hO => ?_
 unfold Vz at hk
 refine sr (C0 (cs := [_, _]) hO CB (fun b1 G hO => ?_))
 refine pA (.int _ _) (pg (AU (sr ?_)))
 refine pM (.int _ _) ?_
 refine AO (pg (As hk ?_ ?_)) <;> intro hk
 ·refine sr (pM (.int _ _) ?_)
  refine pA (.int _ _) (pg (Ax (gr ?_)))
  cases hk; exact Ah hO
 refine Av (gn (sr (B4 D0 hO 0 (.lit _ _ _) Gd ?_)))
 refine pM (.int _ _) (bk hk fun c2 tv hk => ?_)
 refine pX tv IB Cp ?_
 refine pF Dj ?_
 refine CQ (.int _ _) (Gj (lm := 0) (off := 1) tv B5) ?_
 refine pM (.int _ _) ?_
 refine AO ?_
 refine pA (.int _ _) (pg (Ax ?_))
 cases hk; exact Ah hO
def UE (cb : A8) : Option A8 :=
 ((CL 16 ([] : List BR) cb.Steps).bind fun z5 => ((CL 16 ([] : List BQ) cb.AK).bind fun z8 => ((CL 8 ([] : List Int) cb.A7).bind fun wa => ((CL 24 ([] : List Ai) cb.AP).bind fun z14 => some (⟨cb.AY, cb.To, z5, z8, wa, z14, ([] : List Ai), ([] : List AD)⟩ : A8)))))
theorem UF (hk : UE cb = some r) (sj : sc < lk.length) : ∃ v H1, Aw dp hh 108 [.agg [iv cb.AY, iv cb.To, A0 l1 0 cb.Steps, A0 l2 0 cb.AK, A0 l3 0 cb.A7, A0 l4 0 cb.AP, (.tl 0 []), (.tl 0 [])]] H lk = some (v, H1) ∧ ∃ E : List Nat × V × List Nat × V × List Nat × V × List Nat × V, v = .agg [iv r.AY, iv r.To, E.2.1, E.2.2.2.1, E.2.2.2.2.2.1, E.2.2.2.2.2.2.2, .tl 0 [], .tl 0 []] ∧ A6 H H1 [Gr [] E.1 sc r.Steps E.2.1, Gr [] E.2.2.1 sc r.AK E.2.2.2.1, Gr [] E.2.2.2.2.1 sc r.A7 E.2.2.2.2.2.1, Gr [] E.2.2.2.2.2.2.1 sc r.AP E.2.2.2.2.2.2.2] := by
 have sn : 0 < lk.length := Nat.lt_of_le_of_lt (Nat.zero_le _) sj
 refine BG Tryz.func108 rfl Tryz.ntmps108 Tryz.results108 rfl rfl ?_
 have hO := A6.nil H
 unfold UE at hk
 refine sr (C0 (cs := [_, _, _, _, _, _, _, _]) hO Bs (fun b1 G hO => C9 hO Bs Kw (fun b2 G hO => pg (sr ?_))))
 refine Eh hO 1 [_, _, _, _, _, _, _, _] H9 Bs (C9 hO Bs Kw (fun b3 G hO => ?_))
 refine Nj (xs := [_, _, _, _, _, _, _, _]) [_, _, _, _, _, _, _, _] hO 0 Bs rfl (fun G hO => pg (sr ?_))
 refine JQ (ps := []) ([] : List BR) JX E5 Jh (Bb) ?_
 refine B4 Ey hO 2 (.lit _ _ _) RX ?_
 replace hO := A6.Im hO BR [] sc
 refine bk hk fun z5 hz5 hk => TV (xs := ([] : List BR)) hO 0 hz5 (Io _ cb.Steps) JX E5 VF Jh JX (kf sj) rfl (fun o5 F5 G hO => ?_)
 refine pF Ey ?_
 have xo := BT hO (j := 0) rfl
 refine Nj (xs := [_]) [_, _, _, _, _, _, _, _] hO 1 k7 rfl (fun G hO => ?_) (h3 := xo.1) (h6 := C7 xo.2)
 refine pg (sr (JQ (ps := []) ([] : List BQ) Ex CM I1 (Bb) ?_))
 refine B4 DY hO 3 (.lit _ _ _) I2 ?_
 replace hO := A6.Im hO BQ [] sc
 refine bk hk fun z8 hz8 hk => TV (xs := ([] : List BQ)) hO 0 hz8 (Io _ cb.AK) Ex CM VG I1 Ex (kf sj) rfl (fun o8 F8 G hO => ?_)
 refine pF DY ?_
 have vk := BT hO (j := 0) rfl
 refine Nj (xs := [_]) [_, _, _, _, _, _, _, _] hO 2 Xl rfl (fun G hO => ?_) (h3 := vk.1) (h6 := C7 vk.2)
 refine pg (sr (JQ (ps := []) ([] : List Int) I6 G8 XZ (Bb) ?_))
 refine B4 Fp hO 4 (.lit _ _ _) VE ?_
 replace hO := A6.Im hO Int [] sc
 refine bk hk fun wa hz11 hk => TV (xs := ([] : List Int)) hO 0 hz11 (Io _ cb.A7) I6 G8 s8 XZ I6 (kf sj) rfl (fun o11 F11 G hO => ?_)
 refine pF Fp ?_
 have zj := BT hO (j := 0) rfl
 refine Nj (xs := [_]) [_, _, _, _, _, _, _, _] hO 3 jZ rfl (fun G hO => ?_) (h3 := zj.1) (h6 := C7 zj.2)
 refine pg (sr (JQ (ps := []) ([] : List Ai) DV DB FU (Bb) ?_))
 refine B4 EB hO 5 (.lit _ _ _) I3 ?_
 replace hO := A6.Im hO Ai [] sc
 refine bk hk fun z14 hz14 hk => TV (xs := ([] : List Ai)) hO 0 hz14 (Io _ cb.AP) DV DB KG FU DV (kf sj) rfl (fun o14 F14 G hO => ?_)
 refine pF EB ?_
 have xk := BT hO (j := 0) rfl
 refine Nj (xs := [_]) [_, _, _, _, _, _, _, _] hO 4 Mn rfl (fun G hO => ?_) (h3 := xk.1) (h6 := C7 xk.2)
 refine pg (sr (Eh hO 4 [_, _, _, _, _, _, _, _] H9 Bs ?_))
 have hc16 := BT hO (j := 3) rfl
 have zk := BT hO (j := 2) rfl
 have hc18 := BT hO (j := 1) rfl
 have xm := BT hO (j := 0) rfl
 refine Nj (xs := [_, _, _, _, _, _, _, _]) [_, _, _, _, _, _, _, _] hO 5 Bs rfl (fun G hO => ?_) (h6 := (Ds rfl (Ds rfl (Ds hc16.2 (Ds zk.2 (Ds hc18.2 (Ds xm.2 (Ds rfl (Ds rfl Ts)))))))))
 refine pg (Ax ?_)
 replace hk := dv hk; subst hk; exact qH (F5, o5, F8, o8, F11, o11, F14, o14) (pk hO [3, 2, 1, 0]) (BJ (Cf (ej sj)) (BJ (Cf (ej sj)) (BJ (Cf (ej sj)) (BJ (Cf (ej sj)) GL)))) (EW hO 5 [_, _, _, _, _, _, _, _] H9 Bs CC) rfl (U3 rfl (U3 rfl (U3 (Cu hO (j := 3) rfl _ sn) (U3 (Cu hO (j := 2) rfl _ sn) (U3 (Cu hO (j := 1) rfl _ sn) (U3 (Cu hO (j := 0) rfl _ sn) (U3 rfl (U3 rfl tO)))))))) rfl (by first | exact Or.inl rfl | exact Or.inr rfl)
def Lg (x3 : Int) (x4 : Int) : Option ((Int × Int) ⊕ Int) :=
 some (.inl (x4, AN (x3 + 1)))
def O8 (af : Bq) (aa : List AI) (ai : Int) (ar : Int) (az : Int) : (Int × Int) → Option ((Int × Int) ⊕ Int) := fun s =>
 (bif decide (s.2 < (aa.length : Int)) then ((AR aa s.2).bind fun c5 => ((bif ((c5.A1 != ai) || (c5.Way != ar)) then some true else ((Vz af ai c5.At ar).bind fun v8 => some (decide (v8 ≤ az)))).bind fun t7 => (bif t7 then (Lg s.2 s.1) else ((bif decide (s.1 < 0) then some true else ((AR aa s.1).bind fun ss => ((Vz af ai c5.At ar).bind fun v11 => ((Vz af ai ss.At ar).bind fun v12 => some (decide (v11 < v12)))))).bind fun t9 => (bif t9 then (Lg s.2 s.2) else (Lg s.2 s.1)))))) else ((some s.1).map Sum.inr))
def Y6 (af : Bq) (aa : List AI) (ai : Int) (ar : Int) (az : Int) : Option Int :=
 (AQ (O8 af aa ai ar az) ((-1:Int), (0:Int)))
theorem ZY (hk : Y6 af aa ai ar az = some r) (sn : 0 < lk.length := by simp) : Aw dp hh 109 [.agg [A0 l1 0 af.A3, A0 l2 m3 af.A4], A0 l4 0 aa, iv ai, iv ar, iv az] H lk = some (iv r, H) := by
 refine AH Tryz.func109 rfl Tryz.ntmps109 Tryz.results109 rfl rfl fun hO => ?_
 unfold Y6 at hk
 refine sr (C0 (cs := [_, _]) hO CB (fun b1 G hO => ?_))
 refine pA (.int _ _) (pg (sr ?_))
 refine pA (.int _ _) (pg (AU (sr ?_)))
 refine pM (.lit _ _ _) ?_
 refine BE KI ?_
 refine pM (.int _ _) (pg (Bn ?_))
 refine AE (F := O8 af aa ai ar az) (fun s S' => ∃ J G, A6 H G [.Au b1 (.cells 2 [A0 l1 0 af.A3, A0 l2 m3 af.A4])] ∧ S' = ⟨Ao [(1, A0 l4 0 aa),(2, iv ai),(3, iv ar),(4, iv az),(5, .ptr b1 0),(11, iv s.1),(14, A0 l4 0 aa),(15, iv (aa.length : Int)),(16, iv s.2)] J, G⟩) hk ⟨_, _, hO, sh⟩ ?_
 rintro ⟨x2, x3⟩ _ y1 ⟨J, G, hO, rfl⟩ hk se
 refine sr (AO (pg (AU (As hk ?_ ?_)))) <;> intro hk
 ·refine Av (gn (CX (fun S' => ∃ x4 J G, Lg x3 x4 = some y1 ∧ A6 H G [.Au b1 (.cells 2 [A0 l1 0 af.A3, A0 l2 m3 af.A4])] ∧ S' = ⟨Ao [(1, A0 l4 0 aa),(2, iv ai),(3, iv ar),(4, iv az),(5, .ptr b1 0),(11, iv x4),(14, A0 l4 0 aa),(15, iv (aa.length : Int)),(16, iv x3)] J, G⟩) ?_ ?_))
  ·refine Bn (sr (pM (.int _ _) (bk hk fun c5 tx hk => ?_)))
   refine pX tx GM BF ?_
   refine CQ (.agg [_, _, _, _]) (EA (lm := 0) (off := 0) tx H8 BF) (C9 hO BF HL (fun b6 G hO => ?_))
   refine pA (.int _ _) ?_
   refine DR (xs := [_, _, _, _]) hO 0 BF rfl (fun G hO => pg (AU (sr ?_)))
   refine B4 DD hO 0 (.int _ _) B5 ?_
   refine pM (.int _ _) ?_
   refine AO ?_
   refine pM (.bool _) ?_
   refine Aa (l1 := [_, _, _, _, _]) (fun S' => ∃ J, S' = ⟨Ao [(1, A0 l4 0 aa),(2, iv ai),(3, iv ar),(4, iv az),(5, .ptr b1 0),(11, iv x2),(12, iv x3),(13, .ptr b6 0),(14, A0 l4 0 aa),(15, iv (aa.length : Int)),(16, iv x3),(30, .bool ((c5.A1 != ai) || (c5.Way != ar)))] J, G⟩) ?_ ?_
   ·refine bc (b := (c5.A1 != ai)) ?_ ?_ <;> intro hg
    ·repeat refine CK hg ?_
     refine Ev hg (.bool _) ?_
     exact pE ⟨_, St.Ao _ ⟨rfl, rfl, rfl, rfl, rfl, rfl, rfl, rfl, rfl, rfl, rfl, by rw [hg]; rfl, trivial⟩⟩
    refine AZ hg (pF DO (AZ hg ?_))
    refine Eg hO 0 (.int _ _) B5 (AZ hg ?_)
    refine pM (.int _ _) (AZ hg ?_)
    refine AO ?_
    refine Eu hg (.bool _) ?_
    exact pE ⟨_, St.Ao _ ⟨rfl, rfl, rfl, rfl, rfl, rfl, rfl, rfl, rfl, rfl, rfl, by rw [hg]; rfl, trivial⟩⟩
   rintro _ ⟨J, rfl⟩
   refine pM (.bool _) (bk hk fun t7 ht hk => ?_)
   refine Aa (l1 := [_, _, _, _, _, _, _, _, _]) (fun S' => ∃ J, S' = ⟨Ao [(1, A0 l4 0 aa),(2, iv ai),(3, iv ar),(4, iv az),(5, .ptr b1 0),(11, iv x2),(12, iv x3),(13, .ptr b6 0),(14, A0 l4 0 aa),(15, iv (aa.length : Int)),(16, iv x3),(40, .bool t7)] J, G⟩) ?_ ?_
   ·refine bc (b := ((c5.A1 != ai) || (c5.Way != ar))) ?_ ?_ <;> intro hg
    ·replace hk := ct hg ht
     repeat refine CK hg ?_
     refine Ev hg (.bool _) ?_
     cases hk; exact pE ⟨_, sh⟩
    replace hk := cf hg ht
    refine AZ hg (Eh hO 1 [_, _] E4 CB (AZ hg ?_))
    refine pM (.int _ _) (AZ hg ?_)
    refine pF CW (AZ hg ?_)
    refine Eg hO 0 (.int _ _) B5 (AZ hg ?_)
    refine pM (.int _ _) (AZ hg (bk hk fun v8 hv8 hk => ?_))
    refine Ae (fun _ => JH hv8) (AZ hg ?_)
    refine pM (.int _ _) (AZ hg ?_)
    refine AO ?_
    refine Eu hg (.bool _) ?_
    cases hk; exact pE ⟨_, sh⟩
   rintro _ ⟨J, rfl⟩
   refine pg (As hk ?_ ?_) <;> intro hk
   ·exact Dh (ge (be (gn (⟨x2, _, _, hk, (pk hO [1]), sh⟩))))
   refine Av (gn (AU (GC [0,2,4,7,9,11,13,15,19,21,23,25,27,29,31,33,17,34,36,38] [_,_,_,_,_,_,_,_,_,_,_,_,_,_,_,_,_,_,_,_] ?_)))
   refine pM (.int _ _) ?_
   refine AO ?_
   refine pM (.bool _) (bk hk fun t9 ht hk => ?_)
   refine Aa (l1 := [_, _, _, _, _, _, _, _, _, _, _, _, _, _, _, _, _]) (fun S' => ∃ J, S' = ⟨Ao [(1, A0 l4 0 aa),(2, iv ai),(3, iv ar),(4, iv az),(5, .ptr b1 0),(11, iv x2),(12, iv x3),(14, A0 l4 0 aa),(15, iv (aa.length : Int)),(16, iv x3),(60, .bool t9)] J, G⟩) ?_ ?_
   ·refine bc (b := decide (x2 < 0)) ?_ ?_ <;> intro hg
    ·replace hk := ct hg ht
     repeat refine CK hg ?_
     refine Ev hg (.bool _) ?_
     cases hk; exact pE ⟨_, sh⟩
    replace hk := cf hg ht
    refine AZ hg (Eh hO 1 [_, _] E4 CB (AZ hg ?_))
    refine pM (.int _ _) (AZ hg ?_)
    refine pF CW (AZ hg ?_)
    refine Eg hO 0 (.int _ _) B5 (AZ hg ?_)
    refine pM (.int _ _) (AZ hg ?_)
    refine Eh hO 1 [_, _] E4 CB (AZ hg ?_)
    refine pM (.int _ _) (AZ hg ?_)
    refine pM (.lit _ _ _) (AZ hg ?_)
    refine pM (.int _ _) (AZ hg (bk hk fun ss sy hk => ?_))
    refine pX sy GM BF (AZ hg ?_)
    refine pF CW (AZ hg ?_)
    refine CQ (.int _ _) (Gj (lm := 0) (off := 2) sy B5) (AZ hg ?_)
    refine pM (.int _ _) (AZ hg (bk hk fun v11 hv11 hk => ?_))
    refine Ae (fun _ => JH hv11) (AZ hg (bk hk fun v12 hv12 hk => ?_))
    refine Ae (fun _ => JH hv12) (AZ hg ?_)
    refine AO ?_
    refine Eu hg (.bool _) ?_
    cases hk; exact pE ⟨_, sh⟩
   rintro _ ⟨J, rfl⟩
   refine pg (As hk ?_ ?_) <;> intro hk
   ·refine Cj (pM (.int _ _) ?_)
    refine pA (.int _ _) (pE (bn (gn ?_)))
    exact ⟨x3, _, _, hk, (pk hO [1]), sh⟩
   exact Av (bn (gn (⟨x2, _, _, hk, (pk hO [1]), sh⟩)))
  rintro _ ⟨x4, J, G, hk, hO, rfl⟩
  refine Cj (AO ?_)
  refine pM (.int _ _) (pg ?_)
  cases hk; exact ⟨_, rfl, _, _, hO, sh⟩
 refine Dh (ge (ge (be (gn (have hk := lx se hk; sr (pM (.int _ _) ?_))))))
 refine pA (.int _ _) (pg (Ax ?_))
 cases hk; exact Ah hO
def O9 (av : Int) (x3 : Int) (x4 : Int) : Option Ai :=
 some (⟨av, x3, x4⟩ : Ai)
def Vq (af : Bq) (av : Int) (cp : Int) (cj : Int) (dh : Int) : Option Ai :=
 (bif (cp == (-1:Int)) then ((AR af.A3 av).bind fun c5 => ((AR af.A3 av).bind fun c6 => (O9 av (AN (c5.Bo - dh)) (AN (c6.Bo - cj))))) else (O9 av cj dh))
theorem PD (hk : Vq af av cp cj dh = some r) (sn : 0 < lk.length := by simp) : Aw dp hh 110 [.agg [A0 l1 0 af.A3, A0 l2 m3 af.A4], iv av, iv cp, iv cj, iv dh] H lk = some (.agg [iv r.A1, iv r.AY, iv r.To], H) := by
 refine AH Tryz.func110 rfl Tryz.ntmps110 Tryz.results110 rfl rfl fun hO => ?_
 unfold Vq at hk
 refine sr (C0 (cs := [_, _]) hO CB (fun b1 G hO => C9 hO DB FU (fun b2 G hO => pg ?_)))
 refine CX (fun S' => ∃ x3 x4 J G, O9 av x3 x4 = some r ∧ A6 H G [.Au b2 (.cells 3 [iv 0, iv 0, iv 0])] ∧ S' = ⟨Ao [(1, iv av),(3, iv x3),(4, iv x4),(10, .ptr b2 0)] J, G⟩) ?_ ?_
 ·refine sr (pM (.int _ _) ?_)
  refine AO (pg (As hk ?_ ?_)) <;> intro hk
  ·refine sr (pM (.int _ _) ?_)
   refine pA (.int _ _) (pg (sr ?_))
   refine B4 D0 hO 1 (.lit _ _ _) Gd ?_
   refine pM (.int _ _) (bk hk fun c5 tx hk => ?_)
   refine pX tx IB Cp ?_
   refine pF Dj ?_
   refine CQ (.int _ _) (Gj (lm := 0) (off := 1) tx B5) ?_
   refine pM (.int _ _) ?_
   refine AO ?_
   refine pA (.int _ _) (pg (Cj ?_))
   refine B4 D0 hO 1 (.lit _ _ _) Gd ?_
   refine pM (.int _ _) (bk hk fun c6 xo hk => ?_)
   refine pX xo IB Cp ?_
   refine pF Dj ?_
   refine CQ (.int _ _) (Gj (lm := 0) (off := 1) xo B5) ?_
   refine pM (.int _ _) ?_
   refine AO ?_
   refine pA (.int _ _) (pg ?_)
   exact ⟨AN (c5.Bo - dh), AN (c6.Bo - cj), _, _, hk, (pk hO [0]), sh⟩
  exact Av (gn (⟨cj, dh, _, _, hk, (pk hO [0]), sh⟩))
 rintro _ ⟨x3, x4, J, G, hk, hO, rfl⟩
 refine sr (pM (.int _ _) ?_)
 refine pM (.int _ _) ?_
 refine pM (.int _ _) ?_
 refine G9 [_, _, _] FU lF ?_
 refine DR (xs := [_, _, _]) hO 0 DB rfl (fun G hO => pg (Ax ?_))
 replace hk := dv hk; subst hk; exact Cv hO (C8 (n := 2) (BV (Af _ _) (BV (Af _ _) (BV (Af _ _) (Dm))))) (EW hO 0 [_, _, _] Xa DB CC)
def Y8 (bg : Int) (cq : Int) : Option Ac :=
 (bif (cq == 1) then some (⟨bg, (1:Int)⟩ : Ac) else some (⟨bg, 0⟩ : Ac))
theorem UH (hk : Y8 bg cq = some r) (sn : 0 < lk.length := by simp) : Aw dp hh 114 [iv bg, iv cq] H lk = some (.agg [iv r.A1, iv r.BI], H) := by
 refine AH Tryz.func114 rfl Tryz.ntmps114 Tryz.results114 rfl rfl fun hO => ?_
 unfold Y8 at hk
 refine sr (C9 hO AS Cw (fun b1 G hO => pg (AU (sr (pM (.int _ _) ?_)))))
 refine AO (pg (As hk ?_ ?_)) <;> intro hk
 ·refine sr (pM (.int _ _) ?_)
  refine G9 [_, _] Cw Mm ?_
  refine DR (xs := [_, _]) hO 0 AS rfl (fun G hO => pg (Ax (gr ?_)))
  replace hk := dv hk; subst hk; exact Cv hO (C8 (n := 2) (BV (Af _ _) (BV (Af _ _) (Dm)))) (EW hO 0 [_, _] Br AS CC)
 refine Av (gn (sr (pM (.int _ _) ?_)))
 refine G9 [_, _] Cw Mm ?_
 refine DR (xs := [_, _]) hO 0 AS rfl (fun G hO => pg (Ax ?_))
 replace hk := dv hk; subst hk; exact Cv hO (C8 (n := 2) (BV (Af _ _) (BV (Af _ _) (Dm)))) (EW hO 0 [_, _] Br AS CC)
def OC (bj : Ac) (x3 : Int) (c4 : AG) : Int → Option (Int ⊕ (Int ⊕ (Int × Int))) := fun s =>
 (bif decide (s < (c4.Ends.length : Int)) then ((AR c4.Ends s).bind fun c7 => (bif ((c7.A1 == bj.A1) && ((c7.BI == bj.BI) && true)) then (((some (x3, s)).map Sum.inr).map Sum.inr) else some (.inl (AN (s + 1))))) else ((some (.inl (AN (x3 + 1)))).map Sum.inr))
def OB (af : Bq) (bj : Ac) : Int → Option (Int ⊕ (Int × Int)) := fun s =>
 (bif decide (s < (af.A4.length : Int)) then ((AR af.A4 s).bind fun c4 => (AQ (OC bj s c4) ((0:Int)))) else ((some ((-1:Int), (-1:Int))).map Sum.inr))
def Vr (af : Bq) (bj : Ac) : Option (Int × Int) :=
 (AQ (OB af bj) ((0:Int)))
theorem PE (hk : Vr af bj = some r) (sn : 0 < lk.length := by simp) : Aw dp hh 113 [.agg [A0 l1 0 af.A3, A0 l2 m3 af.A4], .agg [iv bj.A1, iv bj.BI]] H lk = some (.Ei [iv r.1, iv r.2], H) := by
 refine AH Tryz.func113 rfl Tryz.ntmps113 Tryz.results113 rfl rfl fun hO => ?_
 unfold Vr at hk
 refine sr (C0 (cs := [_, _]) hO CB (fun b1 G hO => ?_))
 refine C0 (cs := [_, _]) hO AS (fun b2 G hO => ?_)
 refine pA (.int _ _) ?_
 refine pA (.int _ _) (pg (AU (sr ?_)))
 refine B4 DK hO 1 (.lit _ _ _) HF ?_
 refine BE NO ?_
 refine pM (.int _ _) (pg (Bn ?_))
 refine AE (F := OB af bj) (fun s S' => ∃ J G, A6 H G [.Au b2 (.cells 2 [iv bj.A1, iv bj.BI])] ∧ S' = ⟨Ao [(3, .ptr b2 0),(11, A0 l2 m3 af.A4),(12, iv (af.A4.length : Int)),(13, iv s)] J, G⟩) hk ⟨_, _, (pk hO [0]), sh⟩ ?_
 rintro x3 _ y1 ⟨J, G, hO, rfl⟩ hk se
 refine sr (AO (pg (AU (As hk ?_ ?_)))) <;> intro hk
 ·refine Av (gn (AU (Bn (sr (pM (.int _ _) (bk hk fun c4 te hk => ?_))))))
  refine pX te HA BY ?_
  refine CQ (.agg [_, _, _]) (EA (lm := m3) (off := 0) te I5 BY) (C9 hO BY Ji (fun b5 G hO => ?_))
  refine pA (.int _ _) ?_
  refine DR (xs := [_, _, _]) hO 0 BY rfl (fun G hO => pg (sr ?_))
  refine B4 Ct hO 0 (.lit _ _ _) Ew ?_
  refine BE HM ?_
  refine pM (.int _ _) (pg (Bn ?_))
  refine AE (F := OC bj x3 c4) (fun s S' => ∃ J G, A6 H G [.Au b2 (.cells 2 [iv bj.A1, iv bj.BI])] ∧ S' = ⟨Ao [(3, .ptr b2 0),(6, iv x3),(11, A0 l2 m3 af.A4),(12, iv (af.A4.length : Int)),(13, iv x3),(19, A0 m3 0 c4.Ends),(20, iv (c4.Ends.length : Int)),(21, iv s)] J, G⟩) hk ⟨_, _, (pk hO [1]), sh⟩ ?_
  rintro x6 _ y2 ⟨J, G, hO, rfl⟩ hk wj
  refine sr (AO (pg (AU (As hk ?_ ?_)))) <;> intro hk
  ·refine Av (gn (AU (Bn (sr (pM (.int _ _) (bk hk fun c7 tw hk => ?_))))))
   refine pX tw CV AS ?_
   refine CQ (.agg [_, _]) (EA (lm := 0) (off := 0) tw Br AS) (C9 hO AS Cw (fun b8 G hO => ?_))
   refine pA (.int _ _) ?_
   refine DR (xs := [_, _]) hO 0 AS rfl (fun G hO => pg (sr ?_))
   refine Eh hO 0 [_, _] Br AS ?_
   refine Eh hO 1 [_, _] Br AS ?_
   refine nI Xh (Tp (Tq _ _ _) (Tp (Tq _ _ _) (rfl))) (pg (As hk ?_ ?_)) <;> intro hk
   ·refine sr (pM (.int _ _) ?_)
    refine pM (.int _ _) ?_
    refine pA (.int _ _) ?_
    refine pA (.int _ _) (pg (Ax (br (gr (gr (br (br (gr (gr (br (gr (have hk := lx wj hk; have hk := lx se hk; ?_))))))))))))
    replace hk := dv hk; subst hk; exact Cv hO (Ic (n := 3) (BV (Af _ _) (BV (Af _ _) (Dm)))) (Dn (.int _ _) (Dn (.int _ _) CC))
   refine Av (bn (gn (Cj (AO ?_))))
   refine pM (.int _ _) (pg ?_)
   cases hk; exact ⟨_, rfl, _, _, (pk hO [1]), sh⟩
  refine Dh (ge (ge (be (bn (gn (have hk := lx wj hk; Cj (AO ?_)))))))
  refine pM (.int _ _) (pg ?_)
  cases hk; exact ⟨_, rfl, _, _, hO, sh⟩
 refine Dh (ge (ge (be (gn (have hk := lx se hk; sr (pA (.int _ _) ?_))))))
 refine pA (.int _ _) (pg (Ax ?_))
 replace hk := dv hk; subst hk; exact Cv hO (Ic (n := 3) (BV (Af _ _) (BV (Af _ _) (Dm)))) (Dn (.int _ _) (Dn (.int _ _) CC))
def OA (x5 : Int) (x8 : Int) (yb : Int) (yc : Ac) (x21 : Int) (x22 : List Ai) : Option ((Int × Int × Int × List Ai × Int) ⊕ List Ai) :=
 some (.inl (yc.A1, x21, (0:Int), x22, AN (x8 - (AN (yb - x5)))))
def JE (ag : Cb) (x3 : Int) (x4 : Int) (x5 : Int) (x8 : Int) (yb : Int) (x12 : List Ai) : Option ((Int × Int × Int × List Ai × Int) ⊕ List Ai) :=
 ((Y8 x3 x4).bind fun v14 => ((Vr ag.xN v14).bind fun v15 => ((bif ((AN (x8 - (AN (yb - x5)))) == 0) then some true else ((AR ag.xN.A4 v15.1).bind fun c17 => some (c17.Kind != 2))).bind fun t16 => (bif t16 then ((some x12).map Sum.inr) else ((AR ag.xN.A4 v15.1).bind fun c18 => ((AR c18.Ends (AN ((1:Int) - v15.2))).bind fun yc => (bif (yc.BI == 1) then (OA x5 x8 yb yc (-1:Int) x12) else (OA x5 x8 yb yc (1:Int) x12))))))))
def Li (ag : Cb) (x3 : Int) (x4 : Int) (x5 : Int) (x8 : Int) (x9 : List Ai) (yb : Int) : Option ((Int × Int × Int × List Ai × Int) ⊕ List Ai) :=
 (bif decide (yb > x5) then ((Vq ag.xN x3 x4 x5 yb).bind fun v24 => ((CL 24 x9 ([v24] : List Ai)).bind fun z25 => (JE ag x3 x4 x5 x8 yb z25))) else (JE ag x3 x4 x5 x8 yb x9))
def Lh (ag : Cb) : (Int × Int × Int × List Ai × Int) → Option ((Int × Int × Int × List Ai × Int) ⊕ List Ai) := fun s =>
 (bif decide (s.2.2.2.2 > 0) then ((AR ag.xN.A3 s.1).bind fun c26 => (bif decide ((AN (s.2.2.1 + s.2.2.2.2)) > c26.Bo) then ((AR ag.xN.A3 s.1).bind fun zd => (Li ag s.1 s.2.1 s.2.2.1 s.2.2.2.2 s.2.2.2.1 zd.Bo)) else (Li ag s.1 s.2.1 s.2.2.1 s.2.2.2.2 s.2.2.2.1 (AN (s.2.2.1 + s.2.2.2.2))))) else ((some s.2.2.2.1).map Sum.inr))
def ZZ (ag : Cb) (av : Int) (cp : Int) (de : Int) : Option (List Ai) :=
 (AQ (Lh ag) (av, cp, de, ([] : List Ai), ag.Ak))
theorem Za (hk : ZZ ag av cp de = some r) (tk : H[q0]? = some (.cells 7 [A0 l1 0 ag.xN.A3, A0 l2 m3 ag.xN.A4, A0 l4 0 ag.A9, iv ag.Ak, yd, iv ag.An, zl])) (sn : 0 < lk.length := by simp) : Aw dp hh 111 [.ptr q0 0, iv av, iv cp, iv de] H lk = some (A0 0 0 r, H) := by
 refine AH Tryz.func111 rfl Tryz.ntmps111 Tryz.results111 rfl rfl fun hO => ?_
 unfold ZZ at hk
 refine sr (pA (.tl 0 []) (pg (sr ?_)))
 refine pA (.tl 0 []) (pg (sr ?_))
 refine pM (.ptr _ _) ?_
 refine Bw ?_
 refine pF jN ?_
 refine kO (.int _ _) hO tk B5 ?_
 refine pA (.int _ _) (pg (AU (Bn ?_)))
 refine AE (F := Lh ag) (fun s S' => ∃ o6 J G, A6 H G [.own o6 lk.length 3 s.2.2.2.1.length (AB 0 s.2.2.2.1)] ∧ S' = ⟨Ao [(0, .ptr q0 0),(1, iv s.1),(2, iv s.2.1),(3, iv s.2.2.1),(9, o6),(10, iv s.2.2.2.2)] J, G⟩) hk ⟨(.tl 0 []), _, _, (A6.HI hO lk.length ([] : List Ai)), sh⟩ ?_
 rintro ⟨x3, x4, x5, x6, x8⟩ _ y1 ⟨o6, J, G, hO, rfl⟩ hk se
 refine AU (sr (pM (.int _ _) ?_))
 refine AO (pg (As hk ?_ ?_)) <;> intro hk
 ·refine Av (gn (Bn (sr (pM (.int _ _) ?_))))
  refine pM (.int _ _) ?_
  refine AO ?_
  refine pA (.int _ _) (pg ?_)
  refine CX (fun S' => ∃ x9 yb o9 J G, Li ag x3 x4 x5 x8 x9 yb = some y1 ∧ A6 H G [.own o9 lk.length 3 x9.length (AB 0 x9)] ∧ S' = ⟨Ao [(0, .ptr q0 0),(1, iv x3),(2, iv x4),(3, iv x5),(9, o9),(10, iv x8),(11, iv yb)] J, G⟩) ?_ ?_
  ·refine sr (pM (.int _ _) ?_)
   refine pM (.ptr _ _) ?_
   refine Bw ?_
   refine pF Di ?_
   refine pF D0 ?_
   refine kO (.lit _ _ _) hO tk Gd ?_
   refine pM (.int _ _) (bk hk fun c26 hc26 hk => ?_)
   refine pX hc26 IB Cp ?_
   refine pF Dj ?_
   refine CQ (.int _ _) (Gj (lm := 0) (off := 1) hc26 B5) ?_
   refine AO (pg (As hk ?_ ?_)) <;> intro hk
   ·refine Cj (pM (.ptr _ _) ?_)
    refine Bw ?_
    refine pF Di ?_
    refine pF D0 ?_
    refine kO (.lit _ _ _) hO tk Gd ?_
    refine pM (.int _ _) (bk hk fun zd hc27 hk => ?_)
    refine pX hc27 IB Cp ?_
    refine pF Dj ?_
    refine CQ (.int _ _) (Gj (lm := 0) (off := 1) hc27 B5) ?_
    refine pA (.int _ _) (pg ?_)
    exact ⟨x6, zd.Bo, o6, _, _, hk, hO, sh⟩
   exact Av (gn (⟨x6, AN (x5 + x8), o6, _, _, hk, hO, sh⟩))
  rintro _ ⟨x9, yb, o9, J, G, hk, hO, rfl⟩
  refine CX (fun S' => ∃ x12 o12 J G, JE ag x3 x4 x5 x8 yb x12 = some y1 ∧ A6 H G [.own o12 lk.length 3 x12.length (AB 0 x12)] ∧ S' = ⟨Ao [(0, .ptr q0 0),(1, iv x3),(2, iv x4),(3, iv x5),(9, o12),(10, iv x8),(11, iv yb)] J, G⟩) ?_ ?_
  ·refine sr (pM (.int _ _) ?_)
   refine pM (.int _ _) ?_
   refine AO (pg (As hk ?_ ?_)) <;> intro hk
   ·refine Cj (pM o9 ?_)
    refine pM (.ptr _ _) ?_
    refine Bw ?_
    refine pF Di ?_
    refine vL [_, _] hO tk E4 CB ?_
    refine pM (.int _ _) ?_
    refine pM (.int _ _) ?_
    refine pM (.int _ _) ?_
    refine pM (.int _ _) (bk hk fun v24 hv24 hk => ?_)
    refine Ae (fun _ => PD hv24) ?_
    refine JQ (ps := [(0, (.agg [_, _, _]))]) ([v24] : List Ai) DV DB FU (B2 (Bg (α := Ai) v24) (Bb)) (bk hk fun z25 hz25 hk => ?_)
    refine vH (xs := x9) hO 0 hz25 (CE ([v24] : List Ai)) DV DB KG FU DV rfl (fun o25 G hno25 hO => ?_)
    refine pA o25 (pg ?_)
    exact ⟨z25, o25, _, _, hk, hO, sh⟩
   exact Av (gn (⟨x9, o9, _, _, hk, hO, sh⟩))
  rintro _ ⟨x12, o12, J, G, hk, hO, rfl⟩
  refine sr (pM (.int _ _) ?_)
  refine pM (.int _ _) ?_
  refine pM (.int _ _) ?_
  refine AO ?_
  refine AO ?_
  refine pA (.int _ _) (pg (AU ?_))
  refine GC [0,2,4,7,9,11,13,14,16,18,20,22,24] [_,_,_,_,_,_,_,_,_,_,_,_,_] ?_
  refine pM (.ptr _ _) ?_
  refine Bw ?_
  refine pF Di ?_
  refine vL [_, _] hO tk E4 CB ?_
  refine pM (.int _ _) ?_
  refine pM (.int _ _) (bk hk fun v14 hv14 hk => ?_)
  refine Ae (fun _ => UH hv14) (bk hk fun v15 hv15 hk => ?_)
  refine Ae (fun _ => PE hv15) ?_
  refine pM (.Ei [_, _]) ?_
  refine Qv (.int _ _) ?_
  refine Qv (.int _ _) ?_
  refine pA (.int _ _) ?_
  refine pA (.int _ _) (pg (AU (sr ?_)))
  refine pM (.int _ _) ?_
  refine AO ?_
  refine pM (.bool _) (bk hk fun t16 ht hk => ?_)
  refine Aa (l1 := [_, _, _, _, _, _, _, _, _, _, _]) (fun S' => ∃ J, S' = ⟨Ao [(0, .ptr q0 0),(9, o12),(10, iv (AN (x8 - (AN (yb - x5))))),(12, iv v15.1),(13, iv v15.2),(88, .bool t16)] J, G⟩) ?_ ?_
  ·refine bc (b := ((AN (x8 - (AN (yb - x5)))) == 0)) ?_ ?_ <;> intro hg
   ·replace hk := ct hg ht
    repeat refine CK hg ?_
    refine Ev hg (.bool _) ?_
    cases hk; exact pE ⟨_, sh⟩
   replace hk := cf hg ht
   refine AZ hg (pM (.ptr _ _) (AZ hg ?_))
   refine Bw (AZ hg ?_)
   refine pF Di (AZ hg ?_)
   refine pF DK (AZ hg ?_)
   refine kO (.lit _ _ _) hO tk HF (AZ hg ?_)
   refine pM (.int _ _) (AZ hg (bk hk fun c17 zk hk => ?_))
   refine pX zk HA BY (AZ hg ?_)
   refine pF DE (AZ hg ?_)
   refine CQ (.int _ _) (Gj (lm := m3) (off := 0) zk B5) (AZ hg ?_)
   refine AO ?_
   refine Eu hg (.bool _) ?_
   cases hk; exact pE ⟨_, sh⟩
  rintro _ ⟨J, rfl⟩
  refine pg (As hk ?_ ?_) <;> intro hk
  ·refine sr (pM o12 ?_)
   refine pA o12 (pg (Ax (gr (br (gr (br (gr (have hk := lx se hk; ?_))))))))
   replace hk := dv hk; subst hk; exact Cv hO (Fx (xs := x12) sn 0) (Dn o12 CC)
  refine Av (gn (sr (pM (.ptr _ _) ?_)))
  refine Bw ?_
  refine pF Di ?_
  refine pF DK ?_
  refine kO (.lit _ _ _) hO tk HF ?_
  refine pM (.int _ _) (bk hk fun c18 hc18 hk => ?_)
  refine pX hc18 HA BY ?_
  refine pF Ct ?_
  refine CQ (.lit _ _ _) (Gj (lm := m3) (off := 2) hc18 Ew) ?_
  refine pM (.int _ _) ?_
  refine AO (bk hk fun yc xm hk => ?_)
  refine pX xm CV AS ?_
  refine CQ (.agg [_, _]) (EA (lm := 0) (off := 0) xm Br AS) (C9 hO AS Cw (fun b20 G hO => ?_))
  refine DR (xs := [_, _]) hO 0 AS rfl (fun G hO => pg (sr ?_))
  refine B4 Dk hO 0 (.int _ _) B5 ?_
  refine pA (.int _ _) (pg (sr ?_))
  refine pA (.int _ _) (pg ?_)
  refine CX (fun S' => ∃ x21 x22 o22 J G, OA x5 x8 yb yc x21 x22 = some y1 ∧ A6 H G [.own o22 lk.length 3 x22.length (AB 0 x22)] ∧ S' = ⟨Ao [(0, .ptr q0 0),(1, iv yc.A1),(2, iv x21),(9, o22),(10, iv (AN (x8 - (AN (yb - x5)))))] J, G⟩) ?_ ?_
  ·refine sr (B4 EX hO 0 (.int _ _) B5 ?_)
   refine AO (pg (As hk ?_ ?_)) <;> intro hk
   ·refine Cj (pA (.int _ _) (pg ?_))
    exact ⟨(-1:Int), x12, o12, _, _, hk, (pk hO [1]), sh⟩
   exact Av (gn (⟨(1:Int), x12, o12, _, _, hk, (pk hO [1]), sh⟩))
  rintro _ ⟨x21, x22, o22, J, G, hk, hO, rfl⟩
  refine Cj (pA (.int _ _) (pE (bn (gn ?_))))
  cases hk; exact ⟨_, rfl, o22, _, _, hO, sh⟩
 refine Dh (ge (ge (be (gn (have hk := lx se hk; sr (pM o6 ?_))))))
 refine pA o6 (pg (Ax ?_))
 replace hk := dv hk; subst hk; exact Cv hO (Fx (xs := x6) sn 0) (Dn o6 CC)
def Zb (db : AG) (bf : Int) : Option (List Ac) :=
 (bif (db.Kind == 2) then ((AR db.Ends (AN ((1:Int) - bf))).bind fun c2 => some ([c2] : List Ac)) else (bif (db.Kind == 3) then (bif (bf == 0) then ((AR db.Ends (1:Int)).bind fun c4 => ((AR db.Ends (2:Int)).bind fun c5 => some ([c4, c5] : List Ac))) else ((AR db.Ends (0:Int)).bind fun c7 => some ([c7] : List Ac))) else (bif (db.Kind == 4) then ((AR ([(1:Int), (0:Int), (3:Int), (2:Int)] : List Int) bf).bind fun c9 => ((AR db.Ends c9).bind fun ss => some ([ss] : List Ac))) else some ([] : List Ac))))
theorem UI (hk : Zb db bf = some r) (sn : 0 < lk.length := by simp) : Aw dp hh 115 [.agg [iv db.Kind, .str db.Name, A0 l1 0 db.Ends], iv bf] H lk = some (A0 0 0 r, H) := by
 refine AH Tryz.func115 rfl Tryz.ntmps115 Tryz.results115 rfl rfl fun hO => ?_
 unfold Zb at hk
 refine sr (C0 (cs := [_, _, _]) hO BY (fun b1 G hO => ?_))
 refine pA (.tl 0 []) (pg (AU (sr ?_)))
 refine B4 DE hO 0 (.int _ _) B5 (pg (Bn (sr ?_)))
 refine AO ?_
 refine pA (.bool _) (pg (As hk ?_ ?_)) <;> intro hk
 ·refine sr (B4 Ct hO 0 (.lit _ _ _) Ew ?_)
  refine pM (.int _ _) ?_
  refine AO (bk hk fun c2 tv hk => ?_)
  refine pX tv CV AS ?_
  refine CQ (.agg [_, _]) (EA (lm := 0) (off := 0) tv Br AS) ?_
  refine JQ (ps := [(0, (.agg [_, _]))]) ([c2] : List Ac) CV AS Cw (B2 (Bg (α := Ac) c2) (Bb)) ?_
  refine pA (.tl 1 (AB 0 ([c2] : List Ac))) (pg (Ax (br (gr ?_))))
  replace hO := A6.HI hO lk.length ([c2] : List Ac)
  replace hk := dv hk; subst hk; exact Cv hO (Fx (xs := ([c2] : List Ac)) sn 0) (Dn (.tl 1 (AB 0 ([c2] : List Ac))) CC)
 refine sr (AO ?_)
 refine pA (.bool _) (pg (As hk ?_ ?_)) <;> intro hk
 ·refine AU (sr (pM (.int _ _) ?_))
  refine AO (pg (As hk ?_ ?_)) <;> intro hk
  ·refine AU (GC [1,3,5,7,9,11,13,15,16,18] [_,_,_,_,_,_,_,_,_,_] ?_)
   refine B4 Ct hO 0 (.lit _ _ _) Ew (bk hk fun c4 te hk => ?_)
   refine pX te CV AS ?_
   refine CQ (.agg [_, _]) (EA (lm := 0) (off := 0) te Br AS) ?_
   refine B4 Ct hO 0 (.lit _ _ _) Ew (bk hk fun c5 tx hk => ?_)
   refine pX tx CV AS ?_
   refine CQ (.agg [_, _]) (EA (lm := 0) (off := 0) tx Br AS) ?_
   refine JQ (ps := [(0, (.agg [_, _])), (1, (.agg [_, _]))]) ([c4, c5] : List Ac) CV AS Cw (B2 (Bg (α := Ac) c4) (B2 (Bg (α := Ac) c5) (Bb))) ?_
   refine pA (.tl 2 (AB 0 ([c4, c5] : List Ac))) (pg (Ax (gr (br (gr ?_)))))
   replace hO := A6.HI hO lk.length ([c4, c5] : List Ac)
   replace hk := dv hk; subst hk; exact Cv hO (Fx (xs := ([c4, c5] : List Ac)) sn 0) (Dn (.tl 2 (AB 0 ([c4, c5] : List Ac))) CC)
  refine Av (gn (sr (B4 Ct hO 0 (.lit _ _ _) Ew (bk hk fun c7 tw hk => ?_))))
  refine pX tw CV AS ?_
  refine CQ (.agg [_, _]) (EA (lm := 0) (off := 0) tw Br AS) ?_
  refine JQ (ps := [(0, (.agg [_, _]))]) ([c7] : List Ac) CV AS Cw (B2 (Bg (α := Ac) c7) (Bb)) ?_
  refine pA (.tl 1 (AB 0 ([c7] : List Ac))) (pg (Ax (br (gr ?_))))
  replace hO := A6.HI hO lk.length ([c7] : List Ac)
  replace hk := dv hk; subst hk; exact Cv hO (Fx (xs := ([c7] : List Ac)) sn 0) (Dn (.tl 1 (AB 0 ([c7] : List Ac))) CC)
 refine sr (AO ?_)
 refine pA (.bool _) (pg (As hk ?_ ?_)) <;> intro hk
 ·refine AU (GC [1,3,5,7,9,11,12,15,16,18] [_,_,_,_,_,_,_,_,_,_] ?_)
  refine B4 Ct hO 0 (.lit _ _ _) Ew ?_
  refine JQ (ps := [(0, (.int _ _)), (1, (.int _ _)), (2, (.int _ _)), (3, (.int _ _))]) ([(1:Int), (0:Int), (3:Int), (2:Int)] : List Int) I6 G8 XZ (B2 (EZ _ _) (B2 (EZ _ _) (B2 (EZ _ _) (B2 (EZ _ _) (Bb))))) ?_
  refine pM (.int _ _) (bk hk fun c9 vk hk => ?_)
  refine vX vk I6 G8 ?_
  refine CQ (.int _ _) (Gj (lm := 0) (off := 0) vk B5) (bk hk fun ss sy hk => ?_)
  refine pX sy CV AS ?_
  refine CQ (.agg [_, _]) (EA (lm := 0) (off := 0) sy Br AS) ?_
  refine JQ (ps := [(0, (.agg [_, _]))]) ([ss] : List Ac) CV AS Cw (B2 (Bg (α := Ac) ss) (Bb)) ?_
  refine pA (.tl 1 (AB 0 ([ss] : List Ac))) (pg (Ax (br (gr ?_))))
  replace hO := A6.HI hO lk.length ([ss] : List Ac)
  replace hk := dv hk; subst hk; exact Cv hO (Fx (xs := ([ss] : List Ac)) sn 0) (Dn (.tl 1 (AB 0 ([ss] : List Ac))) CC)
 refine Av (bn (gn (sr (pA (.tl 0 []) (pg (Ax ?_))))))
 replace hk := dv hk; subst hk; exact Cv hO (LA (k := 0) Ac) (Dn (.tl 0 []) CC)
end
end Go.Proofs.YtjklepgidjimfaaGreat.K
