/- Plain laws: parity of common places; a word is in the line code just if it meets each generator evenly; the line code's weights. -/
import Derived.Test.YteedbejlbjfkgaaLnIn
import Derived.Test.YteedbejlbjfkgaaPr
set_option linter.unusedVariables false
namespace Go.Proofs.Yteedbejlbjfkgaa.Res

/-- The generators written out. -/
def genL : List Nat := (List.range 23).map gen
theorem self_dual : ∀ p, p < 24 → ∀ i, i < 23 → pr (blEnd.getD p 0) (gen i) = 0 := by decide +kernel

theorem rst_pr {x i : Nat} (hi : i < 23) (n : Nat) (hn : n ≤ 24) : pr (rst blEnd x n) (gen i) = pr x (gen i) := by
  induction n with
  | zero => rfl
  | succ n ih =>
    simp only [rst]
    split
    · rw [pr_xor, ih (by omega), self_dual (23 - n) (by omega) i hi, Nat.add_zero]
      exact Nat.mod_eq_of_lt (pr_lt _ _)
    · exact ih (by omega)

theorem blEnd_top : ∀ p, p < 24 → 12 ≤ p → blEnd.getD p 0 < 2 ^ (p + 1) ∧ (blEnd.getD p 0).testBit p = true := by decide +kernel

theorem rst_small {x : Nat} (hx : x < 2 ^ 24) (n : Nat) (hn : n ≤ 12) : rst blEnd x n < 2 ^ (24 - n) := by
  induction n with
  | zero => exact hx
  | succ n ih =>
    have h1 := ih (by omega)
    have ht := blEnd_top (23 - n) (by omega) (by omega)
    rw [show 24 - n = (23 - n) + 1 by omega] at h1
    rw [show 24 - (n + 1) = 23 - n by omega]
    cases h : (rst blEnd x n).testBit (23 - n)
    · rw [rst_miss h]
      exact top_clear h1 h
    · rw [rst_hit h]
      apply top_clear (Nat.xor_lt_two_pow h1 ht.1)
      rw [Nat.testBit_xor, h, ht.2]
      rfl

theorem rst_rest (x : Nat) (n : Nat) (hn : n ≤ 12) : rst blEnd x (12 + n) = rst blEnd x 12 := by
  induction n with
  | zero => rfl
  | succ n ih =>
    have hz : ∀ p, p < 12 → blEnd.getD p 0 = 0 := by decide
    rw [show 12 + (n + 1) = (12 + n) + 1 by omega, rst_none (hz _ (by omega)), ih (by omega)]

theorem rst_end {x : Nat} (hx : x < 2 ^ 24) : rst blEnd x 24 < 4096 := by
  rw [show 24 = 12 + 12 from rfl, rst_rest x 12 (Nat.le_refl _)]
  exact rst_small hx 12 (Nat.le_refl _)

/-- Does a word meet each generator evenly? -/
def lineInS (w : Nat) : Bool := (List.range 23).all fun i => pr w (gen i) == 0

theorem small_dual : allB (fun r => Nat.beq r 0 || !genL.all (fun g => Nat.beq (pr r g) 0)) 12 0 = true := by decide +kernel

theorem lineIn_same {w : Nat} (hw : w < 2 ^ 24) : lineInS w = lineInB w := by
  rw [Bool.eq_iff_iff]
  unfold lineInS lineInB
  rw [List.all_eq_true, beq_iff_eq]
  constructor
  · intro h
    have hr := rst_end hw
    have hs := allB_all 12 small_dual _ hr
    rw [Bool.or_eq_true] at hs
    rcases hs with hs | hs
    · exact Nat.eq_of_beq_eq_true hs
    · exfalso
      have ha : genL.all (fun g => Nat.beq (pr (rst blEnd w 24) g) 0) = true := by
        rw [List.all_eq_true]
        intro g hg
        obtain ⟨i, hi, rfl⟩ := List.mem_map.1 hg
        have hi' : i < 23 := by simpa using hi
        rw [rst_pr hi' 24 (Nat.le_refl _)]
        have := h i hi
        rw [beq_iff_eq] at this
        rw [this]
        rfl
      rw [ha] at hs
      cases hs
  · intro h i hi
    have hi' : i < 23 := by simpa using hi
    rw [beq_iff_eq, ← rst_pr hi' 24 (Nat.le_refl _), h]
    unfold pr
    rw [Nat.zero_and]
    rfl


/-- Sums of generators are sums of generators. -/
theorem lsTo_xor (x y k : Nat) : lsTo (x ^^^ y) k = lsTo x k ^^^ lsTo y k := by
  induction k with
  | zero => simp [lsTo]
  | succ k ih =>
    have h : (x ^^^ y).testBit k = (x.testBit k ^^ y.testBit k) := Nat.testBit_xor x y k
    cases hx : x.testBit k <;> cases hy : y.testBit k <;> rw [hx, hy] at h
    · rw [lsTo_miss h, lsTo_miss hx, lsTo_miss hy, ih]
    · rw [lsTo_hit h, lsTo_miss hx, lsTo_hit hy, ih, Nat.xor_assoc]
    · rw [lsTo_hit h, lsTo_hit hx, lsTo_miss hy, ih, Nat.xor_assoc, Nat.xor_comm (lsTo y k), Nat.xor_assoc]
    · have e : lsTo x k ^^^ gen k ^^^ (lsTo y k ^^^ gen k) = lsTo x k ^^^ lsTo y k := by
        rw [Nat.xor_comm (lsTo y k), Nat.xor_assoc, ← Nat.xor_assoc (gen k), Nat.xor_self, Nat.zero_xor]
      rw [lsTo_miss h, lsTo_hit hx, lsTo_hit hy, ih, e]
theorem lineSum_xor (x y : Nat) : lineSum (x ^^^ y) = lineSum x ^^^ lineSum y := lsTo_xor x y 23
theorem lineSum_lt (w : Nat) : lineSum w < 2 ^ 24 := lsTo_lt w 23 (Nat.le_refl _)

theorem gen_dual : ∀ i, i < 23 → ∀ j, j < 23 → pr (gen i) (gen j) = 0 := by decide +kernel
theorem lsTo_pr (w : Nat) {j : Nat} (hj : j < 23) (k : Nat) (hk : k ≤ 23) : pr (lsTo w k) (gen j) = 0 := by
  induction k with
  | zero => unfold pr; rw [show lsTo w 0 = 0 from rfl, Nat.zero_and]; rfl
  | succ k ih =>
    cases h : w.testBit k
    · rw [lsTo_miss h]; exact ih (by omega)
    · rw [lsTo_hit h, pr_xor, ih (by omega), gen_dual k (by omega) j hj]
/-- A sum of generators is in the line code. -/
theorem lineSum_in (w : Nat) : lineInB (lineSum w) = true := by
  rw [← lineIn_same (lineSum_lt w)]
  unfold lineInS
  rw [List.all_eq_true]
  intro i hi
  rw [beq_iff_eq]
  exact lsTo_pr w (by simpa using hi) 23 (Nat.le_refl _)

/-- A word of the line code is a sum of the basis' words by its places 12 to 23. -/
def combo (m : Nat) : Nat → Nat
  | 0 => 0
  | n + 1 => if m.testBit (23 - n) then combo m n ^^^ blEnd.getD (23 - n) 0 else combo m n

end Go.Proofs.Yteedbejlbjfkgaa.Res
