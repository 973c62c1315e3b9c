/- Plain model: is a vector in the lattice? -/
import Derived.Test.YthbgmmjgenkjpaaCdIn
set_option linter.unusedVariables false
namespace Go.Proofs.Ythbgmmjgenkjpaa.Res

/-- The places below k whose numbers have the rest r by 4. -/
def rw4 (l : List Int) (r : Nat) : Nat → Nat
  | 0 => 0
  | k + 1 => if r = (l.getD k 0 % 4).toNat then rw4 l r k ||| 2 ^ k else rw4 l r k
theorem rw4_lt (l : List Int) (r k : Nat) : rw4 l r k < 2 ^ k := by
  induction k with
  | zero => simp [rw4]
  | succ k ih =>
    simp only [rw4]
    have h1 : rw4 l r k < 2 ^ (k + 1) := Nat.lt_trans ih (Nat.pow_lt_pow_right (by omega) (by omega))
    split
    · exact Nat.or_lt_two_pow h1 (Nat.pow_lt_pow_right (by omega) (by omega))
    · exact h1
theorem rw4_le (l : List Int) (r k : Nat) (hk : k ≤ 24) : rw4 l r k ≤ 16777215 := by
  have h1 := rw4_lt l r k
  have h2 : (2 : Nat) ^ k ≤ 2 ^ 24 := Nat.pow_le_pow_right (by omega) hk
  omega

def sumTo (l : List Int) : Nat → Int
  | 0 => 0
  | k + 1 => sumTo l k + l.getD k 0
theorem sumTo_bd {l : List Int} (h : ∀ i, -100000 ≤ l.getD i 0 ∧ l.getD i 0 ≤ 100000) (k : Nat) : -(100000 * (k : Int)) ≤ sumTo l k ∧ sumTo l k ≤ 100000 * (k : Int) := by
  induction k with
  | zero => simp [sumTo]
  | succ k ih =>
    have := h k
    simp only [sumTo]
    omega

/-- Is a number even or odd as the first one? -/
def parL (l : List Int) (i : Nat) : Bool := l.getD i 0 % 2 == l.getD 0 0 % 2
/-- Is a vector in the lattice? -/
def latB (l : List Int) : Bool :=
  (List.range 24).all (parL l) && (List.range 4).all (fun r => codeB (rw4 l r 24)) && sumTo l 24 % 8 == 4 * (l.getD 0 0 % 2)

theorem latB_par {l : List Int} {k : Nat} (hk : k < 24) (h : parL l k = false) : latB l = false := by
  have : (List.range 24).all (parL l) = false := by
    rw [List.all_eq_false]
    exact ⟨k, by simpa using hk, by simp [h]⟩
  unfold latB
  rw [this]
  rfl
theorem parL_step {l : List Int} {k : Nat} (hn : (List.range k).all (parL l) = true) (h : parL l k = true) : (List.range (k + 1)).all (parL l) = true := by
  rw [List.range_succ, List.all_append, hn]
  simp [h]
theorem latB_code {l : List Int} {r : Nat} (hr : r < 4) (h : codeB (rw4 l r 24) = false) : latB l = false := by
  have : (List.range 4).all (fun r => codeB (rw4 l r 24)) = false := by
    rw [List.all_eq_false]
    exact ⟨r, by simpa using hr, by simp [h]⟩
  unfold latB
  rw [this, Bool.and_false]
  rfl
theorem code4_step {l : List Int} {k : Nat} (hn : (List.range k).all (fun r => codeB (rw4 l r 24)) = true) (h : codeB (rw4 l k 24) = true) : (List.range (k + 1)).all (fun r => codeB (rw4 l r 24)) = true := by
  rw [List.range_succ, List.all_append, hn]
  simp [h]
theorem rw4_succ (l : List Int) (k : Nat) : (fun r => rw4 l r (k + 1)) = fun r => if r = (l.getD k 0 % 4).toNat then rw4 l r k ||| 2 ^ k else rw4 l r k := rfl

end Go.Proofs.Ythbgmmjgenkjpaa.Res
