/- Plain laws: parities of sums and of common places. -/
import Derived.Test.YtmgdcnibmifdeaaGreatDoorWd
set_option linter.unusedVariables false
namespace Go.Proofs.YtmgdcnibmifdeaaGreatDoor.Res

theorem bitN_xor (x y k : Nat) : bitN (x ^^^ y) k = (bitN x k + bitN y k) % 2 := by
  have h : (x ^^^ y).testBit k = (x.testBit k ^^ y.testBit k) := Nat.testBit_xor x y k
  cases hx : x.testBit k <;> cases hy : y.testBit k
  all_goals
    rw [hx, hy] at h
    first
      | rw [bitN_true h]
      | rw [bitN_false h]
    first
      | rw [bitN_true hx]
      | rw [bitN_false hx]
    first
      | rw [bitN_true hy]
      | rw [bitN_false hy]

theorem wtTo_xor (x y k : Nat) : wtTo (x ^^^ y) k % 2 = (wtTo x k + wtTo y k) % 2 := by
  induction k with
  | zero => rfl
  | succ k ih =>
    show (wtTo (x ^^^ y) k + bitN (x ^^^ y) k) % 2 = (wtTo x k + bitN x k + (wtTo y k + bitN y k)) % 2
    rw [bitN_xor]
    omega
theorem wt_xor (x y : Nat) : wt (x ^^^ y) % 2 = (wt x + wt y) % 2 := wtTo_xor x y 24

/-- The parity of the number of common places. -/
def pr (x y : Nat) : Nat := wt (x &&& y) % 2
theorem pr_xor (x y g : Nat) : pr (x ^^^ y) g = (pr x g + pr y g) % 2 := by
  unfold pr
  rw [Nat.and_xor_distrib_right, wt_xor]
  omega
theorem pr_xor' (g x y : Nat) : pr g (x ^^^ y) = (pr g x + pr g y) % 2 := by
  unfold pr
  rw [Nat.and_xor_distrib_left, wt_xor]
  omega
theorem pr_comm (x y : Nat) : pr x y = pr y x := by unfold pr; rw [Nat.and_comm]
theorem pr_lt (x y : Nat) : pr x y < 2 := by unfold pr; omega

theorem top_clear {z p : Nat} (h : z < 2 ^ (p + 1)) (hb : z.testBit p = false) : z < 2 ^ p := by
  rw [testBit_div, decide_eq_false_iff_not] at hb
  have h1 : z / 2 ^ p < 2 := by
    rw [Nat.div_lt_iff_lt_mul (Nat.two_pow_pos p)]
    rw [Nat.pow_succ, Nat.mul_comm] at h
    exact h
  apply (Nat.div_eq_zero_iff_lt (Nat.two_pow_pos p)).1
  generalize z / 2 ^ p = t at hb h1
  omega

end Go.Proofs.YtmgdcnibmifdeaaGreatDoor.Res
