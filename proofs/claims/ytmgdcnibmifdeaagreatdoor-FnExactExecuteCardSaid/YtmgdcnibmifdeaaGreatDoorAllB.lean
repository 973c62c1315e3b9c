/- Checking a statement at all numbers below a power of two, by halves. -/
import Derived.PlainAid
set_option linter.unusedVariables false
namespace Go.Proofs.YtmgdcnibmifdeaaGreatDoor.Res

/-- Does p hold at the 2^k numbers from lo on? -/
def allB (p : Nat → Bool) : Nat → Nat → Bool
  | 0, lo => p lo
  | k + 1, lo => allB p k lo && allB p k (lo + 2 ^ k)

theorem allB_get {p : Nat → Bool} {k lo : Nat} (h : allB p k lo = true) : ∀ i, lo ≤ i → i < lo + 2 ^ k → p i = true := by
  induction k generalizing lo with
  | zero =>
    intro i h1 h2
    obtain rfl : i = lo := by simp at h2; omega
    exact h
  | succ k ih =>
    intro i h1 h2
    simp only [allB, Bool.and_eq_true] at h
    rw [Nat.pow_succ] at h2
    by_cases hi : i < lo + 2 ^ k
    · exact ih h.1 i h1 hi
    · exact ih h.2 i (by omega) (by omega)

theorem allB_all {p : Nat → Bool} (k : Nat) (h : allB p k 0 = true) : ∀ i, i < 2 ^ k → p i = true :=
  fun i hi => allB_get h i (Nat.zero_le _) (by omega)

end Go.Proofs.YtmgdcnibmifdeaaGreatDoor.Res
