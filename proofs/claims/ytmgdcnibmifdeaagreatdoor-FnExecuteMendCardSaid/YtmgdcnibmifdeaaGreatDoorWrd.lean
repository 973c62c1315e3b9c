/- Facts on the program's own word, by its signs: the kernel need not read the string for each statement. -/
import Derived.Test.YtmgdcnibmifdeaaGreatDoorFr
set_option linter.unusedVariables false
namespace Go.Proofs.YtmgdcnibmifdeaaGreatDoor

/-- The program's word, sign by sign. -/
def signs : List Char := ([104, 97, 114, 110, 101, 115, 115, 32, 97, 55, 51, 100, 54, 52, 57, 102, 99, 48, 57, 99, 97, 53, 98, 53, 51, 97, 50, 99, 98, 98, 98, 54, 97, 99, 102, 99, 97, 51, 56, 100, 54, 54, 101, 57, 56, 97, 53, 55, 49, 48, 97, 97, 48, 100, 98, 98, 52, 52, 54, 50, 56, 52, 57, 100, 54, 98, 97, 100, 99, 50, 57, 102, 32, 99, 117, 116, 32, 97, 116, 32, 108, 111, 111, 112, 46, 101, 120, 97, 109, 112, 108, 101, 47, 103, 111, 108, 97, 121, 111, 99, 116, 97, 100, 115, 47, 108, 97, 119, 115, 46, 70, 110, 69, 120, 101, 99, 117, 116, 101, 78, 111, 110, 101, 32, 108, 111, 111, 112, 46, 101, 120, 97, 109, 112, 108, 101, 47, 103, 111, 108, 97, 121, 111, 99, 116, 97, 100, 115, 47, 108, 97, 119, 115, 46, 70, 110, 69, 120, 101, 99, 117, 116, 101, 84, 119, 105, 99, 101, 32, 108, 111, 111, 112, 46, 101, 120, 97, 109, 112, 108, 101, 47, 103, 111, 108, 97, 121, 111, 99, 116, 97, 100, 115, 47, 108, 97, 119, 115, 46, 70, 110, 69, 120, 101, 99, 117, 116, 101, 87, 104, 97, 116, 32, 108, 111, 111, 112, 46, 101, 120, 97, 109, 112, 108, 101, 47, 103, 111, 108, 97, 121, 111, 99, 116, 97, 100, 115, 47, 108, 97, 119, 115, 46, 70, 110, 69, 120, 101, 99, 117, 116, 101, 67, 111, 100, 101, 32, 108, 111, 111, 112, 46, 101, 120, 97, 109, 112, 108, 101, 47, 103, 111, 108, 97, 121, 111, 99, 116, 97, 100, 115, 47, 108, 97, 119, 115, 46, 70, 110, 69, 120, 101, 99, 117, 116, 101, 87, 111, 114, 100, 32, 108, 111, 111, 112, 46, 101, 120, 97, 109, 112, 108, 101, 47, 103, 111, 108, 97, 121, 111, 99, 116, 97, 100, 115, 47, 108, 97, 119, 115, 46, 70, 110, 69, 120, 101, 99, 117, 116, 101, 77, 101, 110, 100, 32, 108, 111, 111, 112, 46, 101, 120, 97, 109, 112, 108, 101, 47, 103, 111, 108, 97, 121, 111, 99, 116, 97, 100, 115, 47, 108, 97, 119, 115, 46, 70, 110, 69, 120, 97, 99, 116, 69, 120, 101, 99, 117, 116, 101] : List Nat).map Char.ofNat
theorem word_eq : Tryz.checked.prog.initOrder = String.ofList signs := by kernel_rfl
theorem signs_eq : Tryz.checked.prog.initOrder.toList = signs := by rw [word_eq]; exact String.toList_ofList
/-- The words behind the program's own. -/
def word0 : List Char := ([99, 117, 116] : List Nat).map Char.ofNat
def wordsR : List (List Char) := ([[97, 116], [108, 111, 111, 112, 46, 101, 120, 97, 109, 112, 108, 101, 47, 103, 111, 108, 97, 121, 111, 99, 116, 97, 100, 115, 47, 108, 97, 119, 115, 46, 70, 110, 69, 120, 101, 99, 117, 116, 101, 78, 111, 110, 101], [108, 111, 111, 112, 46, 101, 120, 97, 109, 112, 108, 101, 47, 103, 111, 108, 97, 121, 111, 99, 116, 97, 100, 115, 47, 108, 97, 119, 115, 46, 70, 110, 69, 120, 101, 99, 117, 116, 101, 84, 119, 105, 99, 101], [108, 111, 111, 112, 46, 101, 120, 97, 109, 112, 108, 101, 47, 103, 111, 108, 97, 121, 111, 99, 116, 97, 100, 115, 47, 108, 97, 119, 115, 46, 70, 110, 69, 120, 101, 99, 117, 116, 101, 87, 104, 97, 116], [108, 111, 111, 112, 46, 101, 120, 97, 109, 112, 108, 101, 47, 103, 111, 108, 97, 121, 111, 99, 116, 97, 100, 115, 47, 108, 97, 119, 115, 46, 70, 110, 69, 120, 101, 99, 117, 116, 101, 67, 111, 100, 101], [108, 111, 111, 112, 46, 101, 120, 97, 109, 112, 108, 101, 47, 103, 111, 108, 97, 121, 111, 99, 116, 97, 100, 115, 47, 108, 97, 119, 115, 46, 70, 110, 69, 120, 101, 99, 117, 116, 101, 87, 111, 114, 100], [108, 111, 111, 112, 46, 101, 120, 97, 109, 112, 108, 101, 47, 103, 111, 108, 97, 121, 111, 99, 116, 97, 100, 115, 47, 108, 97, 119, 115, 46, 70, 110, 69, 120, 101, 99, 117, 116, 101, 77, 101, 110, 100], [108, 111, 111, 112, 46, 101, 120, 97, 109, 112, 108, 101, 47, 103, 111, 108, 97, 121, 111, 99, 116, 97, 100, 115, 47, 108, 97, 119, 115, 46, 70, 110, 69, 120, 97, 99, 116, 69, 120, 101, 99, 117, 116, 101]] : List (List Nat)).map (fun l => l.map Char.ofNat)
theorem words_eq : behindMainWord (wordsSigns signs) = word0 :: wordsR := by kernel_rfl
theorem words_all : behindMainWord (wordsSigns Tryz.checked.prog.initOrder.toList) = word0 :: wordsR := by rw [signs_eq]; exact words_eq
theorem strip_eq : stripLifts liftWords (word0 :: wordsR) = ([], word0 :: wordsR) := by kernel_rfl

theorem made_of (Q : Program) (h : behindMainWord (wordsSigns Q.initOrder.toList) = word0 :: wordsR) : Q.make = some .cut := by
  unfold Program.make Program.headLifts
  rw [h]
  kernel_rfl
theorem lift_of (Q : Program) (h : behindMainWord (wordsSigns Q.initOrder.toList) = word0 :: wordsR) : Q.liftsFinal = false := by
  unfold Program.liftsFinal Program.headLifts
  simp only [h]
  kernel_rfl
theorem may_of (Q : Program) (h : behindMainWord (wordsSigns Q.initOrder.toList) = word0 :: wordsR) (h1 : Q.laysLater = false) (h2 : Q.bearsReflect = false) (h3 : Q.doorFits [] = true) : Q.mayEnter = true := by
  unfold Program.mayEnter
  rw [h]
  simp only [strip_eq, h1, h2, h3]
  kernel_rfl
theorem made : Tryz.checked.prog.make = some .cut := made_of _ words_all
theorem lifts : Tryz.checked.prog.liftsFinal = false := lift_of _ words_all
theorem may : Tryz.checked.prog.mayEnter = true := may_of _ words_all (by kernel_rfl) (by kernel_rfl) (by kernel_rfl)

end Go.Proofs.YtmgdcnibmifdeaaGreatDoor
