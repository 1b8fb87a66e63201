/-
  Who leads to whom in the program. No conditions.
-/
import Derived.Test.YtblodpbcinkehaaKy
import Derived.Test.YtblodpbcinkehaaRows
set_option maxRecDepth 100000
namespace Go.Proofs.Ytblodpbcinkehaa.K
theorem leads0 : ((Try.prog.funcs.toList.drop 0).take 40).map Try.prog.leadsTo = [[], [], [1], [4, 5, 7, 8, 6, 7, 8, 9, 10, 7, 11, 8, 10, 12, 13, 10, 13, 14, 7, 8, 9, 10, 14], [15, 16], [17], [18, 19, 20], [21, 22], [23, 24], [25, 26, 27], [28, 29], [30, 31], [32, 33], [34], [35], [36], [37], [], [38, 39], [20], [40], [41], [42], [], [43], [44, 45], [46], [47, 48], [], [49], [50], [51], [52], [52, 53], [], [], [], [54], [55], [56, 57, 20, 57, 58]] := by kernel_rfl
theorem leads1 : ((Try.prog.funcs.toList.drop 40).take 40).map Try.prog.leadsTo = [[], [], [59], [], [60], [61, 62, 47, 62, 64, 63, 66, 65, 48], [47, 67, 48, 48, 67], [], [], [], [], [68], [], [], [], [69, 70, 70, 70, 71, 72], [57, 57], [], [74, 73, 74, 75], [76], [77, 78], [62, 62], [], [79], [80], [81], [80], [], [82], [], [], [70, 83, 69], [], [], [], [], [], [78], [], []] := by kernel_rfl
theorem leads2 : ((Try.prog.funcs.toList.drop 80).take 40).map Try.prog.leadsTo = [[], [], [], [70, 70], [], [], [], [], [], [], [], [], [], [], [], [], [], [], [], []] := by kernel_rfl
def tblL : List (List Nat) := [[], [], [1], [4, 5, 7, 8, 6, 7, 8, 9, 10, 7, 11, 8, 10, 12, 13, 10, 13, 14, 7, 8, 9, 10, 14], [15, 16], [17], [18, 19, 20], [21, 22], [23, 24], [25, 26, 27], [28, 29], [30, 31], [32, 33], [34], [35], [36], [37], [], [38, 39], [20], [40], [41], [42], [], [43], [44, 45], [46], [47, 48], [], [49], [50], [51], [52], [52, 53], [], [], [], [54], [55], [56, 57, 20, 57, 58], [], [], [59], [], [60], [61, 62, 47, 62, 64, 63, 66, 65, 48], [47, 67, 48, 48, 67], [], [], [], [], [68], [], [], [], [69, 70, 70, 70, 71, 72], [57, 57], [], [74, 73, 74, 75], [76], [77, 78], [62, 62], [], [79], [80], [81], [80], [], [82], [], [], [70, 83, 69], [], [], [], [], [], [78], [], [], [], [], [], [70, 70], [], [], [], [], [], [], [], [], [], [], [], [], [], [], [], []]
theorem leadsTbl : Try.prog.funcs.toList.map Try.prog.leadsTo = tblL := Eq.trans ((map_cat (a := 0) (s := 40) leads0 (map_cat (a := 40) (s := 40) leads1 (map_cat (a := 80) (s := 40) leads2 (by kernel_rfl : (Try.prog.funcs.toList.drop 120).map Try.prog.leadsTo = [])))) : (Try.prog.funcs.toList.drop 0).map Try.prog.leadsTo = [[], [], [1], [4, 5, 7, 8, 6, 7, 8, 9, 10, 7, 11, 8, 10, 12, 13, 10, 13, 14, 7, 8, 9, 10, 14], [15, 16], [17], [18, 19, 20], [21, 22], [23, 24], [25, 26, 27], [28, 29], [30, 31], [32, 33], [34], [35], [36], [37], [], [38, 39], [20], [40], [41], [42], [], [43], [44, 45], [46], [47, 48], [], [49], [50], [51], [52], [52, 53], [], [], [], [54], [55], [56, 57, 20, 57, 58]] ++ ([[], [], [59], [], [60], [61, 62, 47, 62, 64, 63, 66, 65, 48], [47, 67, 48, 48, 67], [], [], [], [], [68], [], [], [], [69, 70, 70, 70, 71, 72], [57, 57], [], [74, 73, 74, 75], [76], [77, 78], [62, 62], [], [79], [80], [81], [80], [], [82], [], [], [70, 83, 69], [], [], [], [], [], [78], [], []] ++ ([[], [], [], [70, 70], [], [], [], [], [], [], [], [], [], [], [], [], [], [], [], []] ++ []))) (by kernel_rfl)
theorem ioS : Try.prog.initOrder = String.ofList (([104, 97, 114, 110, 101, 115, 115, 32, 52, 50, 57, 97, 55, 100, 98, 102, 55, 54, 99, 48, 101, 99, 51, 99, 48, 52, 56, 99, 100, 53, 51, 52, 48, 99, 99, 97, 48, 54, 56, 50, 55, 97, 56, 102, 55, 54, 100, 50, 99, 52, 99, 52, 101, 53, 51, 53, 55, 51, 55, 99, 98, 101, 99, 100, 52, 53, 51, 49, 48, 49, 102, 50, 32, 99, 117, 116, 32, 97, 116, 32, 108, 111, 111, 112, 46, 101, 120, 97, 109, 112, 108, 101, 47, 115, 105, 103, 110, 97, 108, 98, 111, 120, 47, 108, 97, 119, 115, 46, 70, 110, 69, 120, 97, 99, 116, 84, 117, 114, 110, 101, 100] : List Nat).map Char.ofNat) := by kernel_rfl
theorem ioL : Try.prog.initOrder.toList = ([104, 97, 114, 110, 101, 115, 115, 32, 52, 50, 57, 97, 55, 100, 98, 102, 55, 54, 99, 48, 101, 99, 51, 99, 48, 52, 56, 99, 100, 53, 51, 52, 48, 99, 99, 97, 48, 54, 56, 50, 55, 97, 56, 102, 55, 54, 100, 50, 99, 52, 99, 52, 101, 53, 51, 53, 55, 51, 55, 99, 98, 101, 99, 100, 52, 53, 51, 49, 48, 49, 102, 50, 32, 99, 117, 116, 32, 97, 116, 32, 108, 111, 111, 112, 46, 101, 120, 97, 109, 112, 108, 101, 47, 115, 105, 103, 110, 97, 108, 98, 111, 120, 47, 108, 97, 119, 115, 46, 70, 110, 69, 120, 97, 99, 116, 84, 117, 114, 110, 101, 100] : List Nat).map Char.ofNat := by rw [ioS, String.toList_ofList]
theorem wdsB : behindMainWord (wordsSigns Try.prog.initOrder.toList) = ([[99, 117, 116], [97, 116], [108, 111, 111, 112, 46, 101, 120, 97, 109, 112, 108, 101, 47, 115, 105, 103, 110, 97, 108, 98, 111, 120, 47, 108, 97, 119, 115, 46, 70, 110, 69, 120, 97, 99, 116, 84, 117, 114, 110, 101, 100]] : List (List Nat)).map fun l => l.map Char.ofNat := by rw [ioL]; kernel_rfl
theorem layL : Try.prog.laysLater = false := by kernel_rfl
theorem beaR : Try.prog.bearsReflect = false := by kernel_rfl
/-! ## A program that is opened at its cut -/
theorem strip_cut (rest : List (List Char)) : stripLifts liftWords ("cut".toList :: rest) = ([], "cut".toList :: rest) := by kernel_rfl
theorem cut_of_head {ws : List (List Char)} (h : ws.head? = some "cut".toList) : ∃ rest, ws = "cut".toList :: rest := by cases ws with
  | nil => cases h
  | cons c r => exact ⟨r, by rw [Option.some.inj h]⟩
theorem cut_headLifts {P : Program} (h : (behindMainWord (wordsSigns P.initOrder.toList)).head? = some "cut".toList) : P.headLifts = [] := by
  obtain ⟨rest, hr⟩ := cut_of_head h
  unfold Program.headLifts; rw [hr, strip_cut]; rfl
theorem cut_liftsFinal {P : Program} (h : (behindMainWord (wordsSigns P.initOrder.toList)).head? = some "cut".toList) : P.liftsFinal = false := by
  unfold Program.liftsFinal; rw [cut_headLifts h]
  simp only [h]; kernel_rfl
theorem cut_make {P : Program} (h : (behindMainWord (wordsSigns P.initOrder.toList)).head? = some "cut".toList) : P.make = some .cut := by
  obtain ⟨rest, hr⟩ := cut_of_head h
  unfold Program.make; rw [hr]; rfl
theorem cut_mayEnter {P : Program} (h : (behindMainWord (wordsSigns P.initOrder.toList)).head? = some "cut".toList) (hl : P.laysLater = false) (hb : P.bearsReflect = false) (hd : P.doorRows = []) : P.mayEnter = true := by
  obtain ⟨rest, hr⟩ := cut_of_head h
  have hf : P.doorFits [] = true := by unfold Program.doorFits; rw [hd]; rfl
  unfold Program.mayEnter; rw [hr]; simp only []; rw [strip_cut, hf, hl, hb]; simp
theorem hed : (behindMainWord (wordsSigns Try.prog.initOrder.toList)).head? = some "cut".toList := by rw [wdsB]; kernel_rfl
theorem dorR : Try.prog.doorRows = [] := by kernel_rfl
theorem mayE : Try.prog.mayEnter = true := cut_mayEnter hed layL beaR dorR
theorem lifF : Try.prog.liftsFinal = false := cut_liftsFinal hed
end Go.Proofs.Ytblodpbcinkehaa.K
