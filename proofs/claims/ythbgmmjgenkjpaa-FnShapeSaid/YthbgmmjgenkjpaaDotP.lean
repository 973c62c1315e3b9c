/- Plain model: inner products. -/
import Derived.PlainAid
set_option linter.unusedVariables false
namespace Go.Proofs.Ythbgmmjgenkjpaa.Res

/-- The inner product of the first k numbers. -/
def dotTo (l m : List Int) : Nat → Int
  | 0 => 0
  | k + 1 => dotTo l m k + l.getD k 0 * m.getD k 0

theorem dotTo_comm (l m : List Int) (k : Nat) : dotTo l m k = dotTo m l k := by
  induction k with
  | zero => rfl
  | succ k ih =>
    simp only [dotTo]
    rw [ih, Int.mul_comm]

end Go.Proofs.Ythbgmmjgenkjpaa.Res
