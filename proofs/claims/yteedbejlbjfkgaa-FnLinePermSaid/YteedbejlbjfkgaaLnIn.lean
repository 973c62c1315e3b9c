/- Plain laws on the line code: rests by a basis; the code is its own dual. -/
import Derived.Test.YteedbejlbjfkgaaLn
import Derived.Test.YteedbejlbjfkgaaAllB
set_option linter.unusedVariables false
namespace Go.Proofs.Yteedbejlbjfkgaa.Res

/-- What is left of a word behind the first n places from the top, by a basis (0: none). -/
def rst (bl : List Nat) (x : Nat) : Nat → Nat
  | 0 => x
  | n + 1 => if (rst bl x n).testBit (23 - n) then rst bl x n ^^^ bl.getD (23 - n) 0 else rst bl x n

theorem rst_zero (bl : List Nat) (x : Nat) : rst bl x 0 = x := rfl
theorem rst_hit {bl : List Nat} {x n : Nat} (h : (rst bl x n).testBit (23 - n) = true) : rst bl x (n + 1) = rst bl x n ^^^ bl.getD (23 - n) 0 := by
  show (if _ then _ else _) = _; rw [if_pos h]
theorem rst_miss {bl : List Nat} {x n : Nat} (h : (rst bl x n).testBit (23 - n) = false) : rst bl x (n + 1) = rst bl x n := by
  show (if _ then _ else _) = _; rw [if_neg (by rw [h]; decide)]
theorem rst_none {bl : List Nat} {x n : Nat} (h : bl.getD (23 - n) 0 = 0) : rst bl x (n + 1) = rst bl x n := by
  show (if _ then _ else _) = _
  rw [h, Nat.xor_zero]
  split <;> rfl

theorem rst_lt {bl : List Nat} (hb : ∀ p, bl.getD p 0 < 2 ^ 24) {x : Nat} (hx : x < 2 ^ 24) (n : Nat) : rst bl x n < 2 ^ 24 := by
  induction n with
  | zero => exact hx
  | succ n ih =>
    simp only [rst]
    split
    · exact Nat.xor_lt_two_pow ih (hb _)
    · exact ih

/-- The basis after the generators below i. -/
def blTo : Nat → List Nat
  | 0 => List.replicate 24 0
  | i + 1 => if rst (blTo i) (gen i) 24 = 0 then blTo i else (blTo i).set (Nat.log2 (rst (blTo i) (gen i) 24)) (rst (blTo i) (gen i) 24)

def blEnd : List Nat := [0, 0, 0, 0, 0, 0, 0, 0, 0, 0, 0, 0, 7973, 15946, 17118, 42195, 84390, 145311, 290622, 1005026, 1179174, 2358348, 4716696, 8729438]

theorem blTo_end : blTo 23 = blEnd := by decide +kernel

/-- What the walk asks of each round. -/
def roundOk (i : Nat) : Bool := (blTo i).all (fun b => Nat.blt b 16777216) && Nat.beq (blTo i).length 24 && Nat.blt (rst (blTo i) (gen i) 24) 16777216
theorem rounds_ok : ∀ i, i < 24 → roundOk i = true := by decide +kernel

theorem blTo_lt {i : Nat} (hi : i < 24) (p : Nat) : (blTo i).getD p 0 < 2 ^ 24 := by
  have h := rounds_ok i hi
  unfold roundOk at h
  simp only [Bool.and_eq_true, List.all_eq_true] at h
  by_cases hp : p < (blTo i).length
  · have := h.1.1 _ (List.getElem_mem hp)
    simp only [List.getD, List.getElem?_eq_getElem hp, Option.getD_some]
    simpa using this
  · simp [List.getD, hp]
theorem blTo_length {i : Nat} (hi : i < 24) : (blTo i).length = 24 := by
  have h := rounds_ok i hi
  unfold roundOk at h
  simp only [Bool.and_eq_true] at h
  exact Nat.eq_of_beq_eq_true h.1.2

theorem log2_bit {x : Nat} (h : x ≠ 0) : x.testBit (Nat.log2 x) = true := Nat.testBit_log2 h
theorem log2_above {x k : Nat} (h : Nat.log2 x < k) : x.testBit k = false := by
  apply Nat.testBit_lt_two_pow
  exact Nat.lt_of_lt_of_le Nat.lt_log2_self (Nat.pow_le_pow_right (by omega) h)

/-- The last place of a word is the exponent of its greatest power of two. -/
theorem placesTo_last {x : Nat} (h : x ≠ 0) (j : Nat) : ∃ l, placesTo x (Nat.log2 x + 1 + j) = l ++ [Nat.log2 x] := by
  induction j with
  | zero => exact ⟨_, placesTo_hit (log2_bit h)⟩
  | succ j ih =>
    obtain ⟨l, hl⟩ := ih
    exact ⟨l, by rw [show Nat.log2 x + 1 + (j + 1) = (Nat.log2 x + 1 + j) + 1 by omega, placesTo_miss (log2_above (by omega)), hl]⟩
theorem log2_lt24 {x : Nat} (h : x < 2 ^ 24) : Nat.log2 x < 24 := by
  by_cases e : x = 0
  · subst e; decide
  · exact (Nat.log2_lt e).2 h
theorem places_last {x : Nat} (h : x ≠ 0) (hx : x < 2 ^ 24) : 0 < (places x).length ∧ (places x).getD ((places x).length - 1) 0 = Nat.log2 x := by
  have hl := log2_lt24 hx
  obtain ⟨l, e⟩ := placesTo_last h (23 - Nat.log2 x)
  rw [show Nat.log2 x + 1 + (23 - Nat.log2 x) = 24 by omega] at e
  unfold places
  rw [e]
  simp

theorem blTo_same {i : Nat} (h : rst (blTo i) (gen i) 24 = 0) : blTo (i + 1) = blTo i := by
  show (if _ then _ else _) = _; rw [if_pos h]
theorem blTo_new {i : Nat} (h : rst (blTo i) (gen i) 24 ≠ 0) : blTo (i + 1) = (blTo i).set (Nat.log2 (rst (blTo i) (gen i) 24)) (rst (blTo i) (gen i) 24) := by
  show (if _ then _ else _) = _; rw [if_neg h]

/-- Is a word in the line code, by its rest? -/
def lineInB (w : Nat) : Bool := rst blEnd w 24 == 0

end Go.Proofs.Yteedbejlbjfkgaa.Res
