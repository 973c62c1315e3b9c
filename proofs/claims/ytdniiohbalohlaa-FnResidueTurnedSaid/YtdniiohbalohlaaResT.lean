/- Plain laws on turning residues modulo 23. -/
import Derived.Test.YtdniiohbalohlaaRes
namespace Go.Proofs.Ytdniiohbalohlaa.Res

theorem turned_all : ∀ n, n < 22 → invN (invN (n + 1)) = n + 1 ∧ sq ((invN (n + 1) : Nat) : Int) = sq (((n + 1 : Nat) : Int)) := by decide +kernel
theorem turned_law {n : Nat} (h0 : 1 ≤ n) (h1 : n ≤ 22) : invN (invN n) = n ∧ sq ((invN n : Nat) : Int) = sq (n : Int) ∧ (invN n * n) % 23 = 1 := by
  have := turned_all (n - 1) (by omega)
  rw [show n - 1 + 1 = n by omega] at this
  refine ⟨this.1, this.2, ?_⟩
  rw [Nat.mul_comm]
  exact (invN_spec h0 h1).1

end Go.Proofs.Ytdniiohbalohlaa.Res
