/- Plain laws: sums of generators have few weights; the line code's words are sums of generators. -/
import Derived.Test.YteedbejlbjfkgaaLnDual
set_option linter.unusedVariables false
namespace Go.Proofs.Yteedbejlbjfkgaa.Res

/-- May a word have this weight? -/
def wtOk (x : Nat) : Bool := Nat.beq (wt x) 0 || Nat.beq (wt x) 8 || Nat.beq (wt x) 12 || Nat.beq (wt x) 16 || Nat.beq (wt x) 24

theorem sums_ok : allB (fun m => wtOk (lineSum m)) 12 0 = true := by decide +kernel
theorem sums_wt {m : Nat} (h : m < 4096) : wtOk (lineSum m) = true := allB_all 12 sums_ok m h

/-- Which of the first twelve generators make the others. -/
def genLow : List Nat := [1, 2, 4, 8, 16, 32, 64, 128, 256, 512, 1024, 2048, 1183, 2366, 1763, 3526, 3859, 2745, 493, 986, 1972, 3944, 2639]
theorem genLow_ok : ∀ i, i < 23 → genLow.getD i 0 < 4096 ∧ lineSum (genLow.getD i 0) = gen i := by decide +kernel
/-- Which of them make the basis. -/
def blLow : List Nat := [0, 0, 0, 0, 0, 0, 0, 0, 0, 0, 0, 0, 3002, 1003, 1085, 43, 86, 135, 270, 3, 5, 10, 20, 1]
theorem blLow_ok : ∀ p, p < 24 → blLow.getD p 0 < 4096 ∧ lineSum (blLow.getD p 0) = blEnd.getD p 0 := by decide +kernel

theorem lsTo_low (w k : Nat) (hk : k ≤ 23) : ∃ m, m < 4096 ∧ lsTo w k = lineSum m := by
  induction k with
  | zero => exact ⟨0, by decide, (show (0 : Nat) = lineSum 0 by decide)⟩
  | succ k ih =>
    obtain ⟨m, hm, e⟩ := ih (by omega)
    cases h : w.testBit k
    · exact ⟨m, hm, by rw [lsTo_miss h, e]⟩
    · have hg := genLow_ok k (by omega)
      exact ⟨m ^^^ genLow.getD k 0, Nat.xor_lt_two_pow (n := 12) hm hg.1, by rw [lsTo_hit h, e, lineSum_xor, hg.2]⟩

/-- Sums of generators have few weights. -/
theorem lineSum_wt (w : Nat) : wtOk (lineSum w) = true := by
  obtain ⟨m, hm, e⟩ := lsTo_low w 23 (Nat.le_refl _)
  unfold lineSum
  rw [e]
  exact sums_wt hm

theorem rst_low (x n : Nat) (hn : n ≤ 24) : ∃ m, rst blEnd x n = x ^^^ lineSum m := by
  induction n with
  | zero => exact ⟨0, by rw [show lineSum 0 = 0 by decide, Nat.xor_zero]; rfl⟩
  | succ n ih =>
    obtain ⟨m, e⟩ := ih (by omega)
    have hg := blLow_ok (23 - n) (by omega)
    cases h : (rst blEnd x n).testBit (23 - n)
    · exact ⟨m, by rw [rst_miss h, e]⟩
    · exact ⟨m ^^^ blLow.getD (23 - n) 0, by rw [rst_hit h, e, lineSum_xor, hg.2, Nat.xor_assoc]⟩

/-- A word of the line code is a sum of generators. -/
theorem lineIn_sum {x : Nat} (h : lineInB x = true) : ∃ m, x = lineSum m := by
  obtain ⟨m, e⟩ := rst_low x 24 (Nat.le_refl _)
  unfold lineInB at h
  rw [beq_iff_eq] at h
  rw [h] at e
  refine ⟨m, ?_⟩
  have : x ^^^ lineSum m ^^^ lineSum m = 0 ^^^ lineSum m := by rw [← e]
  rw [Nat.xor_assoc, Nat.xor_self, Nat.xor_zero, Nat.zero_xor] at this
  exact this
theorem lineIn_wt {x : Nat} (h : lineInB x = true) : wtOk x = true := by
  obtain ⟨m, rfl⟩ := lineIn_sum h
  exact lineSum_wt m
theorem lineIn_iff (x : Nat) : lineInB x = true ↔ ∃ m, x = lineSum m :=
  ⟨lineIn_sum, fun ⟨m, h⟩ => h ▸ lineSum_in m⟩
/-- The line code is closed. -/
theorem lineIn_xor {x y : Nat} (hx : lineInB x = true) (hy : lineInB y = true) : lineInB (x ^^^ y) = true := by
  obtain ⟨m, rfl⟩ := lineIn_sum hx
  obtain ⟨n, rfl⟩ := lineIn_sum hy
  rw [← lineSum_xor]
  exact lineSum_in _
theorem gen_in {i : Nat} (h : i < 23) : lineInB (gen i) = true := by
  rw [← (genLow_ok i h).2]
  exact lineSum_in _
theorem all_in : lineInB 16777215 = true := by decide +kernel
theorem wtOk_cases {x : Nat} (h : wtOk x = true) : wt x = 0 ∨ wt x = 8 ∨ wt x = 12 ∨ wt x = 16 ∨ wt x = 24 := by
  unfold wtOk at h
  simpa [or_assoc] using h

/-- A sum depends on the places below 23 alone. -/
theorem lsTo_congr {x y : Nat} (k : Nat) (h : ∀ i, i < k → x.testBit i = y.testBit i) : lsTo x k = lsTo y k := by
  induction k with
  | zero => rfl
  | succ k ih =>
    have e := h k (by omega)
    have := ih fun i hi => h i (by omega)
    unfold lsTo
    rw [e, this]
theorem rest_sum (w : Nat) : lineSum w ^^^ lineSum ((w &&& 8388607) ^^^ 8388607) = lineSum 8388607 := by
  have e : lineSum (w &&& 8388607) = lineSum w := by
    apply lsTo_congr
    intro i hi
    rw [show (8388607 : Nat) = 2 ^ 23 - 1 by decide, Nat.testBit_and, Nat.testBit_two_pow_sub_one]
    simp [hi]
  rw [lineSum_xor, e, ← Nat.xor_assoc, Nat.xor_self, Nat.zero_xor]

end Go.Proofs.Yteedbejlbjfkgaa.Res
