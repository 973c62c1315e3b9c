/- Facts on the program's own word, by its signs: the kernel need not read the string for each statement. -/
import Derived.Test.YteedbejlbjfkgaaFr
set_option linter.unusedVariables false
namespace Go.Proofs.Yteedbejlbjfkgaa

/-- The program's word, sign by sign. -/
def signs : List Char := ([104, 97, 114, 110, 101, 115, 115, 32, 100, 54, 99, 56, 98, 55, 53, 52, 57, 50, 55, 57, 55, 48, 100, 97, 57, 50, 101, 97, 53, 101, 100, 54, 56, 100, 53, 48, 99, 53, 99, 100, 48, 55, 54, 53, 101, 99, 56, 52, 54, 97, 56, 97, 52, 101, 56, 98, 97, 99, 101, 57, 99, 97, 52, 98, 101, 50, 51, 53, 51, 57, 53, 99, 32, 99, 117, 116, 32, 97, 116, 32, 108, 111, 111, 112, 46, 101, 120, 97, 109, 112, 108, 101, 47, 103, 111, 108, 97, 121, 111, 99, 116, 97, 100, 115, 47, 108, 97, 119, 115, 46, 70, 110, 76, 105, 110, 101, 80, 101, 114, 109, 32, 108, 111, 111, 112, 46, 101, 120, 97, 109, 112, 108, 101, 47, 103, 111, 108, 97, 121, 111, 99, 116, 97, 100, 115, 47, 108, 97, 119, 115, 46, 70, 110, 70, 105, 120, 101, 100, 32, 108, 111, 111, 112, 46, 101, 120, 97, 109, 112, 108, 101, 47, 103, 111, 108, 97, 121, 111, 99, 116, 97, 100, 115, 47, 108, 97, 119, 115, 46, 70, 110, 79, 114, 100, 101, 114, 32, 108, 111, 111, 112, 46, 101, 120, 97, 109, 112, 108, 101, 47, 103, 111, 108, 97, 121, 111, 99, 116, 97, 100, 115, 47, 108, 97, 119, 115, 46, 70, 110, 75, 101, 101, 112, 115] : List Nat).map Char.ofNat
theorem word_eq : Try.checked.prog.initOrder = String.ofList signs := by kernel_rfl
theorem signs_eq : Try.checked.prog.initOrder.toList = signs := by rw [word_eq]; exact String.toList_ofList
/-- The words behind the program's own. -/
def word0 : List Char := ([99, 117, 116] : List Nat).map Char.ofNat
def wordsR : List (List Char) := ([[97, 116], [108, 111, 111, 112, 46, 101, 120, 97, 109, 112, 108, 101, 47, 103, 111, 108, 97, 121, 111, 99, 116, 97, 100, 115, 47, 108, 97, 119, 115, 46, 70, 110, 76, 105, 110, 101, 80, 101, 114, 109], [108, 111, 111, 112, 46, 101, 120, 97, 109, 112, 108, 101, 47, 103, 111, 108, 97, 121, 111, 99, 116, 97, 100, 115, 47, 108, 97, 119, 115, 46, 70, 110, 70, 105, 120, 101, 100], [108, 111, 111, 112, 46, 101, 120, 97, 109, 112, 108, 101, 47, 103, 111, 108, 97, 121, 111, 99, 116, 97, 100, 115, 47, 108, 97, 119, 115, 46, 70, 110, 79, 114, 100, 101, 114], [108, 111, 111, 112, 46, 101, 120, 97, 109, 112, 108, 101, 47, 103, 111, 108, 97, 121, 111, 99, 116, 97, 100, 115, 47, 108, 97, 119, 115, 46, 70, 110, 75, 101, 101, 112, 115]] : List (List Nat)).map (fun l => l.map Char.ofNat)
theorem words_eq : behindMainWord (wordsSigns signs) = word0 :: wordsR := by kernel_rfl
theorem words_all : behindMainWord (wordsSigns Try.checked.prog.initOrder.toList) = word0 :: wordsR := by rw [signs_eq]; exact words_eq
theorem strip_eq : stripLifts liftWords (word0 :: wordsR) = ([], word0 :: wordsR) := by kernel_rfl

theorem made_of (Q : Program) (h : behindMainWord (wordsSigns Q.initOrder.toList) = word0 :: wordsR) : Q.make = some .cut := by
  unfold Program.make Program.headLifts
  rw [h]
  kernel_rfl
theorem lift_of (Q : Program) (h : behindMainWord (wordsSigns Q.initOrder.toList) = word0 :: wordsR) : Q.liftsFinal = false := by
  unfold Program.liftsFinal Program.headLifts
  simp only [h]
  kernel_rfl
theorem may_of (Q : Program) (h : behindMainWord (wordsSigns Q.initOrder.toList) = word0 :: wordsR) (h1 : Q.laysLater = false) (h2 : Q.bearsReflect = false) (h3 : Q.doorFits [] = true) : Q.mayEnter = true := by
  unfold Program.mayEnter
  rw [h]
  simp only [strip_eq, h1, h2, h3]
  kernel_rfl
theorem made : Try.checked.prog.make = some .cut := made_of _ words_all
theorem lifts : Try.checked.prog.liftsFinal = false := lift_of _ words_all
theorem may : Try.checked.prog.mayEnter = true := may_of _ words_all (by kernel_rfl) (by kernel_rfl) (by kernel_rfl)

end Go.Proofs.Yteedbejlbjfkgaa
