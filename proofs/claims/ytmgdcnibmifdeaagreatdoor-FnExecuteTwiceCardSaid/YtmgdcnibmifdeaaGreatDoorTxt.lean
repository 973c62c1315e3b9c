/- Plain laws: texts of words. -/
import Derived.Test.YtmgdcnibmifdeaaGreatDoorWd
import Derived.Test.YtmgdcnibmifdeaaGreatDoorPm
import Derived.Test.YtmgdcnibmifdeaaGreatDoorSpl
import Derived.Lib.Join
set_option linter.unusedVariables false
namespace Go.Proofs.YtmgdcnibmifdeaaGreatDoor.Res

def chB (b : Bool) : UInt8 := if b then 120 else 46
/-- Row r of a word's text, the first k columns. -/
def rowTo (w r k : Nat) : List UInt8 := (List.range k).map fun c => chB (w.testBit (4 * c + r))
theorem rowTo_succ (w r k : Nat) : rowTo w r (k + 1) = rowTo w r k ++ [chB (w.testBit (4 * k + r))] := by simp [rowTo, List.range_succ]
theorem rowTo_length (w r k : Nat) : (rowTo w r k).length = k := by simp [rowTo]
def rowsTo (w k : Nat) : List (List UInt8) := (List.range k).map fun r => rowTo w r 6
theorem rowsTo_succ (w k : Nat) : rowsTo w (k + 1) = rowsTo w k ++ [rowTo w k 6] := by simp [rowsTo, List.range_succ]
theorem rowsTo_length (w k : Nat) : (rowsTo w k).length = k := by simp [rowsTo]
/-- A word's text. -/
def wText (w : Nat) : List UInt8 := Lib.join (rowsTo w 4) [47]
theorem wText_eq (w : Nat) : wText w = rowTo w 0 6 ++ ([47] ++ (rowTo w 1 6 ++ ([47] ++ (rowTo w 2 6 ++ ([47] ++ rowTo w 3 6))))) := by
  simp [wText, Lib.join, rowsTo, List.intercalate, List.range_succ, List.intersperse]
theorem wText_length (w : Nat) : (wText w).length = 27 := by
  rw [wText_eq]
  simp [rowTo_length]
/-- The text of the first r rows, each ahead of the next with a stroke; and of c columns of row r. -/
def txTo (w : Nat) : Nat → List UInt8
  | 0 => []
  | r + 1 => (if r = 0 then [] else txTo w r ++ [47]) ++ rowTo w r 6
theorem txTo_all (w : Nat) : txTo w 4 = wText w := by
  rw [wText_eq]
  simp [txTo]
theorem txTo_length (w r : Nat) : (txTo w r).length ≤ 7 * r := by
  induction r with
  | zero => simp [txTo]
  | succ r ih =>
    simp only [txTo]
    split
    · simp [rowTo_length]
      omega
    · simp [rowTo_length]
      omega
end Go.Proofs.YtmgdcnibmifdeaaGreatDoor.Res
