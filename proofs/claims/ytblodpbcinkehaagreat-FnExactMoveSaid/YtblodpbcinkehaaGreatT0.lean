/-
  Who leads to whom in the program. No conditions.
-/
import Derived.Test.YtblodpbcinkehaaGreatK2
import Derived.Test.YtblodpbcinkehaaGreatRows
set_option maxRecDepth 100000
namespace Go.Proofs.YtblodpbcinkehaaGreat.K
open Option.some renaming inj → an
open Go renaming Program → bg
theorem bK : ((Tryz.prog.funcs.toList.drop 0).take 40).map Tryz.prog.leadsTo = [[], [], [1], [4, 5, 7, 8, 9, 6, 7, 8, 9, 10, 11, 7, 12, 8, 13, 9, 14, 15, 16, 17, 11, 18, 19, 7, 8, 9, 10, 11, 19], [20, 21], [22], [23, 24], [25, 26], [], [27, 28], [29, 30, 31, 32], [14, 33], [34, 35], [], [36, 37], [38, 39], [], [40], [17, 41], [42, 43], [44], [45], [], [46, 47, 48], [49, 50, 51, 53, 52, 54, 55, 56, 57, 49, 49], [58], [59], [], [60], [61, 62], [63, 31, 64, 31, 66, 65, 68, 67, 69], [], [70, 71, 64, 72, 73, 75, 74, 76, 73], [77], [78], [79], [], [80], [81], [81, 82]] := by kernel_rfl
theorem bL : ((Tryz.prog.funcs.toList.drop 40).take 40).map Tryz.prog.leadsTo = [[], [], [83], [], [], [84], [85, 86], [87, 48, 56, 48, 88], [], [56], [53, 52, 53], [], [89, 90], [], [], [49], [51], [], [], [91], [], [92], [31], [31, 31], [], [93], [75], [94], [75], [], [], [66, 74, 68], [], [64, 69], [93, 65], [], [], [], [], [95]] := by kernel_rfl
theorem bM : ((Tryz.prog.funcs.toList.drop 80).take 40).map Tryz.prog.leadsTo = [[], [], [], [], [], [96], [48], [48, 48], [53, 89, 53, 90], [], [], [97], [98, 99], [], [], [100], [101, 102, 102, 102, 103, 104], [], [99], [], [], [], [], [102, 105, 101], [], [102, 102], [], [], [], [], [], [], [], [], [], [], [], [], [], []] := by kernel_rfl
theorem bN : ((Tryz.prog.funcs.toList.drop 120).take 40).map Tryz.prog.leadsTo = [[], []] := by kernel_rfl
def kS : List (List Nat) := [[], [], [1], [4, 5, 7, 8, 9, 6, 7, 8, 9, 10, 11, 7, 12, 8, 13, 9, 14, 15, 16, 17, 11, 18, 19, 7, 8, 9, 10, 11, 19], [20, 21], [22], [23, 24], [25, 26], [], [27, 28], [29, 30, 31, 32], [14, 33], [34, 35], [], [36, 37], [38, 39], [], [40], [17, 41], [42, 43], [44], [45], [], [46, 47, 48], [49, 50, 51, 53, 52, 54, 55, 56, 57, 49, 49], [58], [59], [], [60], [61, 62], [63, 31, 64, 31, 66, 65, 68, 67, 69], [], [70, 71, 64, 72, 73, 75, 74, 76, 73], [77], [78], [79], [], [80], [81], [81, 82], [], [], [83], [], [], [84], [85, 86], [87, 48, 56, 48, 88], [], [56], [53, 52, 53], [], [89, 90], [], [], [49], [51], [], [], [91], [], [92], [31], [31, 31], [], [93], [75], [94], [75], [], [], [66, 74, 68], [], [64, 69], [93, 65], [], [], [], [], [95], [], [], [], [], [], [96], [48], [48, 48], [53, 89, 53, 90], [], [], [97], [98, 99], [], [], [100], [101, 102, 102, 102, 103, 104], [], [99], [], [], [], [], [102, 105, 101], [], [102, 102], [], [], [], [], [], [], [], [], [], [], [], [], [], [], [], []]
theorem RT : Tryz.prog.funcs.toList.map Tryz.prog.leadsTo = kS := Eq.trans ((MO (a := 0) (s := 40) bK (MO (a := 40) (s := 40) bL (MO (a := 80) (s := 40) bM (MO (a := 120) (s := 40) bN (by kernel_rfl : (Tryz.prog.funcs.toList.drop 160).map Tryz.prog.leadsTo = []))))) : (Tryz.prog.funcs.toList.drop 0).map Tryz.prog.leadsTo = [[], [], [1], [4, 5, 7, 8, 9, 6, 7, 8, 9, 10, 11, 7, 12, 8, 13, 9, 14, 15, 16, 17, 11, 18, 19, 7, 8, 9, 10, 11, 19], [20, 21], [22], [23, 24], [25, 26], [], [27, 28], [29, 30, 31, 32], [14, 33], [34, 35], [], [36, 37], [38, 39], [], [40], [17, 41], [42, 43], [44], [45], [], [46, 47, 48], [49, 50, 51, 53, 52, 54, 55, 56, 57, 49, 49], [58], [59], [], [60], [61, 62], [63, 31, 64, 31, 66, 65, 68, 67, 69], [], [70, 71, 64, 72, 73, 75, 74, 76, 73], [77], [78], [79], [], [80], [81], [81, 82]] ++ ([[], [], [83], [], [], [84], [85, 86], [87, 48, 56, 48, 88], [], [56], [53, 52, 53], [], [89, 90], [], [], [49], [51], [], [], [91], [], [92], [31], [31, 31], [], [93], [75], [94], [75], [], [], [66, 74, 68], [], [64, 69], [93, 65], [], [], [], [], [95]] ++ ([[], [], [], [], [], [96], [48], [48, 48], [53, 89, 53, 90], [], [], [97], [98, 99], [], [], [100], [101, 102, 102, 102, 103, 104], [], [99], [], [], [], [], [102, 105, 101], [], [102, 102], [], [], [], [], [], [], [], [], [], [], [], [], [], []] ++ ([[], []] ++ [])))) (by kernel_rfl)
theorem lB : Tryz.prog.initOrder = String.ofList (([104, 97, 114, 110, 101, 115, 115, 32, 56, 100, 52, 102, 49, 57, 98, 52, 56, 48, 49, 98, 102, 49, 57, 51, 48, 99, 99, 50, 101, 99, 49, 53, 49, 98, 100, 98, 102, 57, 48, 53, 100, 99, 101, 52, 101, 48, 50, 98, 55, 97, 57, 52, 51, 53, 50, 53, 98, 55, 102, 102, 99, 54, 102, 101, 98, 100, 102, 53, 54, 99, 100, 57, 32, 99, 117, 116, 32, 97, 116, 32, 108, 111, 111, 112, 46, 101, 120, 97, 109, 112, 108, 101, 47, 115, 105, 103, 110, 97, 108, 98, 111, 120, 47, 108, 97, 119, 115, 46, 70, 110, 69, 120, 97, 99, 116, 77, 111, 118, 101] : List Nat).map Char.ofNat) := by kernel_rfl
theorem lA : Tryz.prog.initOrder.toList = ([104, 97, 114, 110, 101, 115, 115, 32, 56, 100, 52, 102, 49, 57, 98, 52, 56, 48, 49, 98, 102, 49, 57, 51, 48, 99, 99, 50, 101, 99, 49, 53, 49, 98, 100, 98, 102, 57, 48, 53, 100, 99, 101, 52, 101, 48, 50, 98, 55, 97, 57, 52, 51, 53, 50, 53, 98, 55, 102, 102, 99, 54, 102, 101, 98, 100, 102, 53, 54, 99, 100, 57, 32, 99, 117, 116, 32, 97, 116, 32, 108, 111, 111, 112, 46, 101, 120, 97, 109, 112, 108, 101, 47, 115, 105, 103, 110, 97, 108, 98, 111, 120, 47, 108, 97, 119, 115, 46, 70, 110, 69, 120, 97, 99, 116, 77, 111, 118, 101] : List Nat).map Char.ofNat := by rw [lB, String.toList_ofList]
theorem kV : behindMainWord (wordsSigns Tryz.prog.initOrder.toList) = ([[99, 117, 116], [97, 116], [108, 111, 111, 112, 46, 101, 120, 97, 109, 112, 108, 101, 47, 115, 105, 103, 110, 97, 108, 98, 111, 120, 47, 108, 97, 119, 115, 46, 70, 110, 69, 120, 97, 99, 116, 77, 111, 118, 101]] : List (List Nat)).map fun l => l.map Char.ofNat := by rw [lA]; kernel_rfl
theorem jQ : Tryz.prog.laysLater = false := by kernel_rfl
theorem jH : Tryz.prog.bearsReflect = false := by kernel_rfl
/-! ## A program that is opened at its cut -/
theorem PM (rest : List (List Char)) : stripLifts liftWords ("cut".toList :: rest) = ([], "cut".toList :: rest) := by kernel_rfl
theorem Ig {ws : List (List Char)} (h : ws.head? = some "cut".toList) : ∃ rest, ws = "cut".toList :: rest := by cases ws with
  | nil => cases h
  | cons c r => exact ⟨r, by rw [an h]⟩
theorem OR {P : bg} (h : (behindMainWord (wordsSigns P.initOrder.toList)).head? = some "cut".toList) : P.headLifts = [] := by
  obtain ⟨rest, hr⟩ := Ig h
  unfold Program.headLifts; rw [hr, PM]; rfl
theorem Mj {P : bg} (h : (behindMainWord (wordsSigns P.initOrder.toList)).head? = some "cut".toList) : P.liftsFinal = false := by
  unfold Program.liftsFinal; rw [OR h]
  simp only [h]; kernel_rfl
theorem Vl {P : bg} (h : (behindMainWord (wordsSigns P.initOrder.toList)).head? = some "cut".toList) : P.make = some .cut := by
  obtain ⟨rest, hr⟩ := Ig h
  unfold Program.make; rw [hr]; rfl
theorem Pc {P : bg} (h : (behindMainWord (wordsSigns P.initOrder.toList)).head? = some "cut".toList) (hl : P.laysLater = false) (hb : P.bearsReflect = false) (hd : P.doorRows = []) : P.mayEnter = true := by
  obtain ⟨rest, hr⟩ := Ig h
  have hf : P.doorFits [] = true := by unfold Program.doorFits; rw [hd]; rfl
  unfold Program.mayEnter; rw [hr]; simp only []; rw [PM, hf, hl, hb]; simp
theorem jN : (behindMainWord (wordsSigns Tryz.prog.initOrder.toList)).head? = some "cut".toList := by rw [kV]; kernel_rfl
theorem jK : Tryz.prog.doorRows = [] := by kernel_rfl
theorem jU : Tryz.prog.mayEnter = true := Pc jN jQ jH jK
theorem jR : Tryz.prog.liftsFinal = false := Mj jN
end Go.Proofs.YtblodpbcinkehaaGreat.K
