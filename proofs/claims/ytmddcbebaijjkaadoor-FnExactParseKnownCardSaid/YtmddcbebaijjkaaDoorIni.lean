/- The words of the program's head, and three facts of the whole program that rest on them. -/
import Derived.Test.YtmddcbebaijjkaaDoorGb
import Derived.ChangeMaps5
namespace Go.Proofs.YtmddcbebaijjkaaDoor
open Go.RowKit
set_option linter.unusedVariables false
set_option linter.unusedSimpArgs false

set_option maxRecDepth 100000 in
def iniCs : List Char := [Char.ofNat 104, Char.ofNat 97, Char.ofNat 114, Char.ofNat 110, Char.ofNat 101, Char.ofNat 115, Char.ofNat 115, Char.ofNat 32, Char.ofNat 98, Char.ofNat 56, Char.ofNat 53, Char.ofNat 51, Char.ofNat 52, Char.ofNat 101, Char.ofNat 54, Char.ofNat 55, Char.ofNat 51, Char.ofNat 52, Char.ofNat 100, Char.ofNat 55, Char.ofNat 98, Char.ofNat 49, Char.ofNat 54, Char.ofNat 57, Char.ofNat 49, Char.ofNat 50, Char.ofNat 51, Char.ofNat 56, Char.ofNat 57, Char.ofNat 102, Char.ofNat 51, Char.ofNat 97, Char.ofNat 56, Char.ofNat 53, Char.ofNat 102, Char.ofNat 98, Char.ofNat 51, Char.ofNat 102, Char.ofNat 98, Char.ofNat 55, Char.ofNat 55, Char.ofNat 51, Char.ofNat 54, Char.ofNat 101, Char.ofNat 101, Char.ofNat 48, Char.ofNat 101, Char.ofNat 51, Char.ofNat 102, Char.ofNat 50, Char.ofNat 57, Char.ofNat 50, Char.ofNat 50, Char.ofNat 48, Char.ofNat 54, Char.ofNat 49, Char.ofNat 57, Char.ofNat 101, Char.ofNat 57, Char.ofNat 53, Char.ofNat 100, Char.ofNat 52, Char.ofNat 101, Char.ofNat 99, Char.ofNat 99, Char.ofNat 50, Char.ofNat 97, Char.ofNat 57, Char.ofNat 49, Char.ofNat 49, Char.ofNat 98, Char.ofNat 102, Char.ofNat 32, Char.ofNat 99, Char.ofNat 117, Char.ofNat 116, Char.ofNat 32, Char.ofNat 97, Char.ofNat 116, Char.ofNat 32, Char.ofNat 108, Char.ofNat 111, Char.ofNat 111, Char.ofNat 112, Char.ofNat 46, Char.ofNat 101, Char.ofNat 120, Char.ofNat 97, Char.ofNat 109, Char.ofNat 112, Char.ofNat 108, Char.ofNat 101, Char.ofNat 47, Char.ofNat 115, Char.ofNat 111, Char.ofNat 117, Char.ofNat 103, Char.ofNat 104, Char.ofNat 116, Char.ofNat 115, Char.ofNat 116, Char.ofNat 114, Char.ofNat 101, Char.ofNat 97, Char.ofNat 109, Char.ofNat 115, Char.ofNat 47, Char.ofNat 108, Char.ofNat 97, Char.ofNat 119, Char.ofNat 115, Char.ofNat 46, Char.ofNat 70, Char.ofNat 110, Char.ofNat 69, Char.ofNat 120, Char.ofNat 97, Char.ofNat 99, Char.ofNat 116, Char.ofNat 70, Char.ofNat 111, Char.ofNat 114, Char.ofNat 109, Char.ofNat 97, Char.ofNat 116, Char.ofNat 75, Char.ofNat 110, Char.ofNat 111, Char.ofNat 119, Char.ofNat 110, Char.ofNat 32, Char.ofNat 108, Char.ofNat 111, Char.ofNat 111, Char.ofNat 112, Char.ofNat 46, Char.ofNat 101, Char.ofNat 120, Char.ofNat 97, Char.ofNat 109, Char.ofNat 112, Char.ofNat 108, Char.ofNat 101, Char.ofNat 47, Char.ofNat 115, Char.ofNat 111, Char.ofNat 117, Char.ofNat 103, Char.ofNat 104, Char.ofNat 116, Char.ofNat 115, Char.ofNat 116, Char.ofNat 114, Char.ofNat 101, Char.ofNat 97, Char.ofNat 109, Char.ofNat 115, Char.ofNat 47, Char.ofNat 108, Char.ofNat 97, Char.ofNat 119, Char.ofNat 115, Char.ofNat 46, Char.ofNat 70, Char.ofNat 110, Char.ofNat 69, Char.ofNat 120, Char.ofNat 97, Char.ofNat 99, Char.ofNat 116, Char.ofNat 80, Char.ofNat 97, Char.ofNat 114, Char.ofNat 115, Char.ofNat 101, Char.ofNat 75, Char.ofNat 110, Char.ofNat 111, Char.ofNat 119, Char.ofNat 110, Char.ofNat 32, Char.ofNat 108, Char.ofNat 111, Char.ofNat 111, Char.ofNat 112, Char.ofNat 46, Char.ofNat 101, Char.ofNat 120, Char.ofNat 97, Char.ofNat 109, Char.ofNat 112, Char.ofNat 108, Char.ofNat 101, Char.ofNat 47, Char.ofNat 115, Char.ofNat 111, Char.ofNat 117, Char.ofNat 103, Char.ofNat 104, Char.ofNat 116, Char.ofNat 115, Char.ofNat 116, Char.ofNat 114, Char.ofNat 101, Char.ofNat 97, Char.ofNat 109, Char.ofNat 115, Char.ofNat 47, Char.ofNat 108, Char.ofNat 97, Char.ofNat 119, Char.ofNat 115, Char.ofNat 46, Char.ofNat 70, Char.ofNat 110, Char.ofNat 69, Char.ofNat 120, Char.ofNat 97, Char.ofNat 99, Char.ofNat 116, Char.ofNat 70, Char.ofNat 111, Char.ofNat 114, Char.ofNat 109, Char.ofNat 97, Char.ofNat 116, Char.ofNat 82, Char.ofNat 101, Char.ofNat 97, Char.ofNat 100, Char.ofNat 101, Char.ofNat 114]

set_option maxRecDepth 100000 in
def iniW : List (List Char) := [[Char.ofNat 97, Char.ofNat 116], [Char.ofNat 108, Char.ofNat 111, Char.ofNat 111, Char.ofNat 112, Char.ofNat 46, Char.ofNat 101, Char.ofNat 120, Char.ofNat 97, Char.ofNat 109, Char.ofNat 112, Char.ofNat 108, Char.ofNat 101, Char.ofNat 47, Char.ofNat 115, Char.ofNat 111, Char.ofNat 117, Char.ofNat 103, Char.ofNat 104, Char.ofNat 116, Char.ofNat 115, Char.ofNat 116, Char.ofNat 114, Char.ofNat 101, Char.ofNat 97, Char.ofNat 109, Char.ofNat 115, Char.ofNat 47, Char.ofNat 108, Char.ofNat 97, Char.ofNat 119, Char.ofNat 115, Char.ofNat 46, Char.ofNat 70, Char.ofNat 110, Char.ofNat 69, Char.ofNat 120, Char.ofNat 97, Char.ofNat 99, Char.ofNat 116, Char.ofNat 70, Char.ofNat 111, Char.ofNat 114, Char.ofNat 109, Char.ofNat 97, Char.ofNat 116, Char.ofNat 75, Char.ofNat 110, Char.ofNat 111, Char.ofNat 119, Char.ofNat 110], [Char.ofNat 108, Char.ofNat 111, Char.ofNat 111, Char.ofNat 112, Char.ofNat 46, Char.ofNat 101, Char.ofNat 120, Char.ofNat 97, Char.ofNat 109, Char.ofNat 112, Char.ofNat 108, Char.ofNat 101, Char.ofNat 47, Char.ofNat 115, Char.ofNat 111, Char.ofNat 117, Char.ofNat 103, Char.ofNat 104, Char.ofNat 116, Char.ofNat 115, Char.ofNat 116, Char.ofNat 114, Char.ofNat 101, Char.ofNat 97, Char.ofNat 109, Char.ofNat 115, Char.ofNat 47, Char.ofNat 108, Char.ofNat 97, Char.ofNat 119, Char.ofNat 115, Char.ofNat 46, Char.ofNat 70, Char.ofNat 110, Char.ofNat 69, Char.ofNat 120, Char.ofNat 97, Char.ofNat 99, Char.ofNat 116, Char.ofNat 80, Char.ofNat 97, Char.ofNat 114, Char.ofNat 115, Char.ofNat 101, Char.ofNat 75, Char.ofNat 110, Char.ofNat 111, Char.ofNat 119, Char.ofNat 110], [Char.ofNat 108, Char.ofNat 111, Char.ofNat 111, Char.ofNat 112, Char.ofNat 46, Char.ofNat 101, Char.ofNat 120, Char.ofNat 97, Char.ofNat 109, Char.ofNat 112, Char.ofNat 108, Char.ofNat 101, Char.ofNat 47, Char.ofNat 115, Char.ofNat 111, Char.ofNat 117, Char.ofNat 103, Char.ofNat 104, Char.ofNat 116, Char.ofNat 115, Char.ofNat 116, Char.ofNat 114, Char.ofNat 101, Char.ofNat 97, Char.ofNat 109, Char.ofNat 115, Char.ofNat 47, Char.ofNat 108, Char.ofNat 97, Char.ofNat 119, Char.ofNat 115, Char.ofNat 46, Char.ofNat 70, Char.ofNat 110, Char.ofNat 69, Char.ofNat 120, Char.ofNat 97, Char.ofNat 99, Char.ofNat 116, Char.ofNat 70, Char.ofNat 111, Char.ofNat 114, Char.ofNat 109, Char.ofNat 97, Char.ofNat 116, Char.ofNat 82, Char.ofNat 101, Char.ofNat 97, Char.ofNat 100, Char.ofNat 101, Char.ofNat 114]]

set_option maxRecDepth 100000 in
theorem iniIo : Tryd.prog.initOrder = String.ofList iniCs := by kernel_rfl

theorem iniTl : Tryd.prog.initOrder.toList = iniCs := by rw [iniIo, String.toList_ofList]

theorem iniPin : Tryd.pinned.checked.prog = Tryd.prog := by kernel_rfl

theorem iniWs : behindMainWord (wordsSigns iniCs) = [Char.ofNat 99, Char.ofNat 117, Char.ofNat 116] :: iniW := by kernel_rfl

theorem make_of (P : Program) (cs : List Char) (c : List Char) (r : List (List Char)) (h : P.initOrder.toList = cs) (h2 : behindMainWord (wordsSigns cs) = c :: r) (h3 : (c == "gc".toList || c == "spec".toList) = false) (h4 : (c == "cut".toList) = true) : P.make = some .cut := by
  unfold Program.make
  rw [h, h2]
  simp only [h3, h4, Bool.true_or, if_true, Bool.false_eq_true, if_false]

theorem fin_of (P : Program) (cs : List Char) (c : List Char) (r : List (List Char)) (h : P.initOrder.toList = cs) (h2 : behindMainWord (wordsSigns cs) = c :: r) (h3 : (c == "carried".toList) = false) (h4 : ((stripLifts liftWords (c :: r)).1.contains "finals") = false) : P.liftsFinal = false := by
  unfold Program.liftsFinal Program.headLifts
  rw [h, h2]
  by_cases h5 : (stripLifts liftWords (c :: r)).2.head? = some "cut".toList <;> simp_all

theorem may_of (P : Program) (cs : List Char) (c : List Char) (r : List (List Char)) (h : P.initOrder.toList = cs) (h2 : behindMainWord (wordsSigns cs) = c :: r) (h3 : ((stripLifts liftWords (c :: r)).2.head? == some "cut".toList) = true) (h4 : P.laysLater = false) (h5 : P.bearsReflect = false) (h6 : ((stripLifts liftWords (c :: r)).1.contains "leanrows") = false) (h7 : P.doorFits (stripLifts liftWords (c :: r)).1 = true) : P.mayEnter = true := by
  unfold Program.mayEnter
  rw [h, h2]
  simp only [h3, h4, h5, h6, h7]
  simp

theorem iniMake : Tryd.prog.make = some .cut := make_of _ _ _ _ iniTl iniWs (by kernel_rfl) (by kernel_rfl)

theorem iniFin : Tryd.prog.liftsFinal = false := fin_of _ _ _ _ iniTl iniWs (by kernel_rfl) (by kernel_rfl)

theorem iniMay : Tryd.prog.mayEnter = true := may_of _ _ _ _ iniTl iniWs (by kernel_rfl) (by kernel_rfl) (by kernel_rfl) (by kernel_rfl) (by kernel_rfl)

end Go.Proofs.YtmddcbebaijjkaaDoor
