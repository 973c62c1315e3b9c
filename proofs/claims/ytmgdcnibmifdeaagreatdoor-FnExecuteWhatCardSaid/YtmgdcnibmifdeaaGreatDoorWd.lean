/- Plain laws on words of 24 places: no program in sight. -/
import Derived.PlainAid
set_option linter.unusedVariables false
namespace Go.Proofs.YtmgdcnibmifdeaaGreatDoor.Res

/-- The places of a word below k, in ascending order. -/
def placesTo (w : Nat) : Nat → List Nat
  | 0 => []
  | k + 1 => if w.testBit k then placesTo w k ++ [k] else placesTo w k
def places (w : Nat) : List Nat := placesTo w 24

/-- How many places below k a word has. -/
def wtTo (w : Nat) : Nat → Nat
  | 0 => 0
  | k + 1 => wtTo w k + w / 2 ^ k % 2
def wt (w : Nat) : Nat := wtTo w 24

theorem testBit_div (w k : Nat) : w.testBit k = decide (w / 2 ^ k % 2 = 1) := Nat.testBit_eq_decide_div_mod_eq

theorem placesTo_hit {w k : Nat} (h : w.testBit k = true) : placesTo w (k + 1) = placesTo w k ++ [k] := by simp [placesTo, h]
theorem placesTo_miss {w k : Nat} (h : w.testBit k = false) : placesTo w (k + 1) = placesTo w k := by simp [placesTo, h]

theorem placesTo_length (w k : Nat) : (placesTo w k).length ≤ k := by
  induction k with
  | zero => simp [placesTo]
  | succ k ih =>
    by_cases h : w.testBit k = true
    · rw [placesTo_hit h]; simp; exact ih
    · rw [placesTo_miss (by simpa using h)]; omega

theorem placesTo_mem {w k p : Nat} : p ∈ placesTo w k ↔ p < k ∧ w.testBit p = true := by
  induction k with
  | zero => simp [placesTo]
  | succ k ih =>
    by_cases h : w.testBit k = true
    · rw [placesTo_hit h]
      simp only [List.mem_append, ih, List.mem_singleton]
      constructor
      · rintro (⟨a, b⟩ | rfl)
        · exact ⟨by omega, b⟩
        · exact ⟨by omega, h⟩
      · rintro ⟨a, b⟩
        by_cases e : p = k
        · exact .inr e
        · exact .inl ⟨by omega, b⟩
    · have h' : w.testBit k = false := by simpa using h
      rw [placesTo_miss h', ih]
      constructor
      · rintro ⟨a, b⟩; exact ⟨by omega, b⟩
      · rintro ⟨a, b⟩
        refine ⟨?_, b⟩
        by_cases e : p = k
        · subst e; rw [h'] at b; cases b
        · omega

theorem wtTo_le (w k : Nat) : wtTo w k ≤ k := by
  induction k with
  | zero => simp [wtTo]
  | succ k ih => simp only [wtTo]; omega

theorem placesTo_wt (w k : Nat) : (placesTo w k).length = wtTo w k := by
  induction k with
  | zero => simp [placesTo, wtTo]
  | succ k ih =>
    simp only [wtTo]
    by_cases h : w.testBit k = true
    · rw [placesTo_hit h, List.length_append, ih]
      rw [testBit_div, decide_eq_true_eq] at h
      simp [h]
    · rw [placesTo_miss (by simpa using h), ih]
      rw [testBit_div] at h
      simp at h
      omega

theorem places_mem {w p : Nat} : p ∈ places w ↔ p < 24 ∧ w.testBit p = true := placesTo_mem
theorem places_length (w : Nat) : (places w).length = wt w := placesTo_wt w 24
theorem wt_le (w : Nat) : wt w ≤ 24 := wtTo_le w 24

/-- A place of the list of places. -/
theorem places_get {w k : Nat} (h : k < (places w).length) : (places w)[k] < 24 ∧ w.testBit ((places w)[k]) = true :=
  places_mem.1 (List.getElem_mem h)

/-- The bit of a place. -/
def bitN (w k : Nat) : Nat := w / 2 ^ k % 2
theorem bitN_le (w k : Nat) : bitN w k ≤ 1 := by unfold bitN; omega
theorem bitN_true {w k : Nat} (h : w.testBit k = true) : bitN w k = 1 := by
  rw [testBit_div, decide_eq_true_eq] at h; exact h
theorem bitN_false {w k : Nat} (h : w.testBit k = false) : bitN w k = 0 := by
  rw [testBit_div, decide_eq_false_iff_not] at h
  unfold bitN; omega
theorem bitN_test_true {w k : Nat} (h : w.testBit k = true) : (((bitN w k : Nat) : Int) == 1) = true := by rw [bitN_true h]; rfl
theorem bitN_test_false {w k : Nat} (h : w.testBit k = false) : (((bitN w k : Nat) : Int) == 1) = false := by rw [bitN_false h]; rfl

/-- Words with the same places are the same. -/
theorem word_ext {a b : Nat} (ha : a < 16777216) (hb : b < 16777216) (h : ∀ i, i < 24 → a.testBit i = b.testBit i) : a = b := by
  apply Nat.eq_of_testBit_eq
  intro i
  by_cases hi : i < 24
  · exact h i hi
  · rw [Nat.testBit_lt_two_pow (Nat.lt_of_lt_of_le ha (Nat.pow_le_pow_right (n := 2) (by omega) (show 24 ≤ i by omega))),
      Nat.testBit_lt_two_pow (Nat.lt_of_lt_of_le hb (Nat.pow_le_pow_right (n := 2) (by omega) (show 24 ≤ i by omega)))]

end Go.Proofs.YtmgdcnibmifdeaaGreatDoor.Res
