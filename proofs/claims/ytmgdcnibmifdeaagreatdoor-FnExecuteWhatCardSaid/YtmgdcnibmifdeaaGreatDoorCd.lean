/- Plain models of the hexacode and the code: no program in sight. -/
import Derived.Test.YtmgdcnibmifdeaaGreatDoorAllB
import Derived.Test.YtmgdcnibmifdeaaGreatDoorWd
set_option linter.unusedVariables false
namespace Go.Proofs.YtmgdcnibmifdeaaGreatDoor.Res

/-- The product of digits. -/
def tms (a b : Nat) : Nat := if a = 0 ∨ b = 0 then 0 else 1 + (a + b - 2) % 3
theorem tms_le (a b : Nat) : tms a b ≤ 3 := by unfold tms; split <;> omega

/-- A digit of a row of the hexacode. -/
def hexF (a b c x : Nat) : Nat := tms a (tms x x) ^^^ tms b x ^^^ c
def hexRow (a b c : Nat) : List Nat := [a, b, c, hexF a b c 1, hexF a b c 2, hexF a b c 3]
theorem hexF_le {a b c x : Nat} (hc : c ≤ 3) : hexF a b c x ≤ 3 := by
  have h1 := tms_le a (tms x x)
  have h2 := tms_le b x
  have h3 : tms a (tms x x) ^^^ tms b x < 2 ^ 2 := Nat.xor_lt_two_pow (by omega) (by omega)
  have h4 : tms a (tms x x) ^^^ tms b x ^^^ c < 2 ^ 2 := Nat.xor_lt_two_pow h3 (by omega)
  unfold hexF
  omega

def hexTo (a b c k : Nat) : List Nat := [a, b, c] ++ (List.range k).map (fun j => hexF a b c (j + 1))
theorem hexTo_zero (a b c : Nat) : hexTo a b c 0 = [a, b, c] := rfl
theorem hexTo_succ (a b c k : Nat) : hexTo a b c (k + 1) = hexTo a b c k ++ [hexF a b c (k + 1)] := by simp [hexTo, List.range_succ]
theorem hexTo_all (a b c : Nat) : hexTo a b c 3 = hexRow a b c := rfl
theorem hexTo_length (a b c k : Nat) : (hexTo a b c k).length = 3 + k := by simp [hexTo]; omega
theorem hexRow_length (a b c : Nat) : (hexRow a b c).length = 6 := rfl
theorem hexRow_le {a b c : Nat} (ha : a ≤ 3) (hb : b ≤ 3) (hc : c ≤ 3) (i : Nat) : (hexRow a b c).getD i 0 ≤ 3 := by
  have h1 := hexF_le (a := a) (b := b) (x := 1) hc
  have h2 := hexF_le (a := a) (b := b) (x := 2) hc
  have h3 := hexF_le (a := a) (b := b) (x := 3) hc
  match i with
  | 0 => exact ha
  | 1 => exact hb
  | 2 => exact hc
  | 3 => exact h1
  | 4 => exact h2
  | 5 => exact h3
  | i + 6 => simp [hexRow]

/-- The column with a score, a parity and a place of row 0. -/
def fillT : List Nat := [0, 12, 10, 6, 15, 3, 5, 9, 14, 2, 4, 8, 1, 13, 11, 7]
def fill (s p f : Nat) : Nat := fillT.getD (8 * p + 4 * f + s) 0

theorem fill_lt : ∀ s, s < 4 → ∀ p, p < 2 → ∀ f, f < 2 → fill s p f < 16 := by decide +kernel

/-- The score of a column. -/
def scTo (n : Nat) : Nat → Nat
  | 0 => 0
  | r + 1 => if n.testBit r then scTo n r ^^^ r else scTo n r
def sc (n : Nat) : Nat := scTo n 4

/-- The word of a message. -/
def cdRow (m : Nat) : List Nat := hexRow (m % 4) (m / 4 % 4) (m / 16 % 4)
def cdTop (m : Nat) : Nat → Nat
  | 0 => 0
  | c + 1 => cdTop m c ^^^ bitN m (7 + c)
/-- Columns 1 to c. -/
def cdTo (m : Nat) : Nat → Nat
  | 0 => 0
  | c + 1 => cdTo m c + fill ((cdRow m).getD (c + 1) 0) (bitN m 6) (bitN m (7 + c)) * 2 ^ (4 * (c + 1))
def code (m : Nat) : Nat := cdTo m 5 + fill ((cdRow m).getD 0 0) (bitN m 6) (cdTop m 5 ^^^ bitN m 6)

theorem cdRow_length (m : Nat) : (cdRow m).length = 6 := rfl
theorem cdRow_le (m i : Nat) : (cdRow m).getD i 0 ≤ 3 := hexRow_le (by omega) (by omega) (by omega) i
theorem cdTop_le (m c : Nat) : cdTop m c < 2 := by
  induction c with
  | zero => simp [cdTop]
  | succ c ih =>
    have h := bitN_le m (7 + c)
    have : cdTop m c ^^^ bitN m (7 + c) < 2 ^ 1 := Nat.xor_lt_two_pow ih (by omega)
    simpa [cdTop] using this
theorem cdTo_lt (m c : Nat) : cdTo m c < 16 * 2 ^ (4 * c) := by
  induction c with
  | zero => simp [cdTo]
  | succ c ih =>
    have h1 := fill_lt ((cdRow m).getD (c + 1) 0) (by have := cdRow_le m (c + 1); omega) (bitN m 6) (by have := bitN_le m 6; omega) (bitN m (7 + c)) (by have := bitN_le m (7 + c); omega)
    simp only [cdTo]
    rw [show 4 * (c + 1) = 4 * c + 4 by omega, Nat.pow_add]
    generalize 2 ^ (4 * c) = t at *
    generalize fill ((cdRow m).getD (c + 1) 0) (bitN m 6) (bitN m (7 + c)) = u at *
    have : u * (t * 2 ^ 4) ≤ 15 * (t * 2 ^ 4) := Nat.mul_le_mul_right _ (by omega)
    omega

theorem code_all : allB (fun m => Nat.blt (code m) 16777216) 12 0 = true := by decide +kernel
theorem code_lt {m : Nat} (h : m < 4096) : code m < 16777216 := by
  have := allB_all 12 code_all m h
  simpa using this

end Go.Proofs.YtmgdcnibmifdeaaGreatDoor.Res
