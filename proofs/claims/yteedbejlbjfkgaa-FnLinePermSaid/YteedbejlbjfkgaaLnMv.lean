/- Plain laws: the moves x + i of the line take the first generator to the others. -/
import Derived.Test.YteedbejlbjfkgaaLnWt
import Derived.Test.YteedbejlbjfkgaaWLm
import Derived.Test.YteedbejlbjfkgaaMw
set_option linter.unusedVariables false
namespace Go.Proofs.Yteedbejlbjfkgaa
open Res

theorem shift_gen : ∀ i, i < 23 → permOk (ints (lp 1 i 0 1)) = true ∧ mvW (ints (lp 1 i 0 1)) (gen 0) = gen i ∧ wt (gen i) = 12 := by decide +kernel
theorem shift_ok {i : Int} (h0 : 0 ≤ i) (h1 : i ≤ 22) : mOk 1 i 0 1 = true := by
  unfold mOk
  rw [inB_true h0 h1, Int.mul_zero]
  decide +kernel

end Go.Proofs.Yteedbejlbjfkgaa
