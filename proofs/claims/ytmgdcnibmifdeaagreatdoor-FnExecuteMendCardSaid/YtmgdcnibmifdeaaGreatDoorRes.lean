/- Plain laws on residues modulo 23: no program in sight. -/
import Derived.PlainAid
set_option linter.unusedVariables false
namespace Go.Proofs.YtmgdcnibmifdeaaGreatDoor.Res

/-- Is a number within bounds? -/
def inB (n lo hi : Int) : Bool := decide (lo ≤ n) && decide (n ≤ hi)
theorem inB_true {n lo hi : Int} (h1 : lo ≤ n) (h2 : n ≤ hi) : inB n lo hi = true := by simp [inB, h1, h2]
theorem inB_low {n lo hi : Int} (h1 : n < lo) : inB n lo hi = false := by simp [inB]; omega
theorem inB_high {n lo hi : Int} (h1 : hi < n) : inB n lo hi = false := by simp [inB]; omega
theorem inB_iff {n lo hi : Int} : inB n lo hi = true ↔ lo ≤ n ∧ n ≤ hi := by simp [inB]

/-- Is a number the square of one from 1 to 22 modulo 23? -/
def sq (n : Int) : Bool := (List.range 22).any fun k => (((k : Int) + 1) * ((k : Int) + 1)) % 23 == n

theorem sq_of (n : Int) (k : Nat) (hk : k < 22) (h : (((k : Int) + 1) * ((k : Int) + 1)) % 23 = n) : sq n = true := by
  unfold sq
  rw [List.any_eq_true]
  exact ⟨k, by simpa using hk, by simpa using h⟩

theorem sq_not (n : Int) (h : ∀ k : Nat, k < 22 → ¬ (((k : Int) + 1) * ((k : Int) + 1)) % 23 = n) : sq n = false := by
  unfold sq
  rw [List.any_eq_false]
  intro k hk
  simpa using h k (by simpa using hk)

/-- 1 over a residue: the number from 1 to 22 whose product with it is 1 modulo 23. -/
def invN (n : Nat) : Nat := ((List.range 22).find? fun x => n * (x + 1) % 23 == 1).getD 0 + 1

theorem invN_law : ∀ n, n < 22 → (n + 1) * invN (n + 1) % 23 = 1 ∧ 1 ≤ invN (n + 1) ∧ invN (n + 1) ≤ 22 := by decide +kernel
theorem invN_one : ∀ n, n < 22 → ∀ x, x < 22 → (n + 1) * (x + 1) % 23 = 1 → invN (n + 1) = x + 1 := by decide +kernel

theorem invN_spec {n : Nat} (h0 : 1 ≤ n) (h1 : n ≤ 22) : n * invN n % 23 = 1 ∧ 1 ≤ invN n ∧ invN n ≤ 22 := by
  have := invN_law (n - 1) (by omega)
  rwa [show n - 1 + 1 = n by omega] at this
theorem invN_eq {n x : Nat} (h0 : 1 ≤ n) (h1 : n ≤ 22) (h2 : 1 ≤ x) (h3 : x ≤ 22) (h : n * x % 23 = 1) : invN n = x := by
  have := invN_one (n - 1) (by omega) (x - 1) (by omega)
  rw [show n - 1 + 1 = n by omega, show x - 1 + 1 = x by omega] at this
  exact this h

/-- The generator i after the places below k. -/
def genTo (i : Nat) : Nat → Nat
  | 0 => 8388608
  | k + 1 => if sq (((k : Int) - (i : Int)) % 23) then genTo i k ||| 2 ^ k else genTo i k
def gen (i : Nat) : Nat := genTo i 23

/-- The same by addition. -/
def genATo (i : Nat) : Nat → Nat
  | 0 => 8388608
  | k + 1 => if sq (((k : Int) - (i : Int)) % 23) then genATo i k + 2 ^ k else genATo i k

theorem genTo_le : ∀ i, i < 23 → ∀ k, k < 24 → genTo i k ≤ 16777215 := by decide +kernel
theorem genATo_eq : ∀ i, i < 23 → ∀ k, k < 24 → genATo i k = genTo i k := by decide +kernel

end Go.Proofs.YtmgdcnibmifdeaaGreatDoor.Res
