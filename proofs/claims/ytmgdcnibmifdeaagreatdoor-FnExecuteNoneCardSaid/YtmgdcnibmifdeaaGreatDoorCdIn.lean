/- Plain model: is a word in the code? Scores and parities of its columns. -/
import Derived.Test.YtmgdcnibmifdeaaGreatDoorCd
set_option linter.unusedVariables false
namespace Go.Proofs.YtmgdcnibmifdeaaGreatDoor.Res

def col (n c : Nat) : Nat := n / 2 ^ (4 * c) % 16
theorem col_lt (n c : Nat) : col n c < 16 := Nat.mod_lt _ (by omega)
theorem col_bit (n c r : Nat) (hr : r < 4) : (col n c).testBit r = n.testBit (4 * c + r) := by
  unfold col
  rw [show (16 : Nat) = 2 ^ 4 by decide, Nat.testBit_mod_two_pow, Nat.testBit_div_two_pow]
  simp only [hr, decide_true, Bool.true_and]
  congr 1
  omega

theorem scTo_hit {n k : Nat} (h : n.testBit k = true) : scTo n (k + 1) = scTo n k ^^^ k := by simp [scTo, h]
theorem scTo_miss {n k : Nat} (h : n.testBit k = false) : scTo n (k + 1) = scTo n k := by simp [scTo, h]
theorem scTo_lt (n k : Nat) (hk : k ≤ 4) : scTo n k < 4 := by
  induction k with
  | zero => simp [scTo]
  | succ k ih =>
    simp only [scTo]
    split
    · exact Nat.xor_lt_two_pow (n := 2) (ih (by omega)) (by omega)
    · exact ih (by omega)
theorem sc_lt (n : Nat) : sc n < 4 := scTo_lt n 4 (by omega)

/-- The scores of the first k columns. -/
def sclTo (n k : Nat) : List Nat := (List.range k).map fun c => sc (col n c)
def scl (n : Nat) : List Nat := sclTo n 6
theorem sclTo_succ (n k : Nat) : sclTo n (k + 1) = sclTo n k ++ [sc (col n k)] := by simp [sclTo, List.range_succ]
theorem sclTo_length (n k : Nat) : (sclTo n k).length = k := by simp [sclTo]
theorem scl_length (n : Nat) : (scl n).length = 6 := sclTo_length n 6
theorem scl_le (n i : Nat) : (scl n).getD i 0 ≤ 3 := by
  unfold scl sclTo
  by_cases hi : i < 6
  · have := sc_lt (col n i)
    simp [List.getD, hi]
    omega
  · simp [List.getD, hi]

/-- How many places of row 0 a word has in the first k columns. -/
def topS (n : Nat) : Nat → Nat
  | 0 => 0
  | c + 1 => topS n c + bitN n (4 * c)
theorem topS_le (n k : Nat) : topS n k ≤ k := by
  induction k with
  | zero => simp [topS]
  | succ k ih =>
    have := bitN_le n (4 * k)
    simp only [topS]
    omega
theorem bit_xor {a b : Nat} (ha : a < 2) (hb : b < 2) : a ^^^ b = (a + b) % 2 := by
  match a, b, ha, hb with
  | 0, 0, _, _ => rfl
  | 0, 1, _, _ => rfl
  | 1, 0, _, _ => rfl
  | 1, 1, _, _ => rfl
theorem topX_step (n k : Nat) : topS n k % 2 ^^^ bitN n (4 * k) = topS n (k + 1) % 2 := by
  have := bitN_le n (4 * k)
  rw [bit_xor (by omega) (by omega)]
  simp only [topS]
  omega

/-- Is a row in the hexacode? -/
def hexIs (l : List Nat) : Bool := l == hexRow (l.getD 0 0) (l.getD 1 0) (l.getD 2 0)
/-- Has a column the parity of row 0? -/
def parOk (n c : Nat) : Bool := wt (col n c) % 2 == topS n 6 % 2
/-- Is a word in the code? -/
def codeB (n : Nat) : Bool := (List.range 6).all (parOk n) && hexIs (scl n)
theorem codeB_par {n k : Nat} (hk : k < 6) (h : parOk n k = false) : codeB n = false := by
  have : (List.range 6).all (parOk n) = false := by
    rw [List.all_eq_false]
    exact ⟨k, by simpa using hk, by simp [h]⟩
  unfold codeB
  rw [this]
  rfl
theorem par_step {n k : Nat} (hn : (List.range k).all (parOk n) = true) (h : parOk n k = true) : (List.range (k + 1)).all (parOk n) = true := by
  rw [List.range_succ, List.all_append, hn]
  simp [h]

end Go.Proofs.YtmgdcnibmifdeaaGreatDoor.Res
