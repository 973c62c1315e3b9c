/- Plain laws: signs changed at the places of a word. -/
import Derived.Test.YthbgmmjgenkjpaaWd
set_option linter.unusedVariables false
namespace Go.Proofs.Ythbgmmjgenkjpaa.Res

/-- Numbers with the opposite ones at the places of a word that lie below k. -/
def flipTo (l : List Int) (w k : Nat) : List Int := (List.range l.length).map fun i => if decide (i < k) && w.testBit i then -(l.getD i 0) else l.getD i 0
/-- The first k of the numbers with the opposite ones at the places of a word. -/
def flipN (l : List Int) (w k : Nat) : List Int := (List.range k).map fun i => if w.testBit i then -(l.getD i 0) else l.getD i 0
def flipV (l : List Int) (w : Nat) : List Int := flipN l w 24

theorem flipTo_length (l : List Int) (w k : Nat) : (flipTo l w k).length = l.length := by simp [flipTo]
theorem flipN_length (l : List Int) (w k : Nat) : (flipN l w k).length = k := by simp [flipN]
theorem flipV_length (l : List Int) (w : Nat) : (flipV l w).length = 24 := flipN_length l w 24
theorem flipN_succ (l : List Int) (w k : Nat) : flipN l w (k + 1) = flipN l w k ++ [if w.testBit k then -(l.getD k 0) else l.getD k 0] := by simp [flipN, List.range_succ]
theorem flipTo_zero (l : List Int) (w : Nat) : flipTo l w 0 = l := by
  apply List.ext_getElem (by simp [flipTo])
  intro i h1 h2
  simp [flipTo, List.getD, h2]
theorem flipTo_get (l : List Int) (w k i : Nat) (hi : i < l.length) : (flipTo l w k).getD i 0 = if decide (i < k) && w.testBit i then -(l.getD i 0) else l.getD i 0 := by
  simp [flipTo, List.getD, hi]
theorem flipV_get (l : List Int) (w i : Nat) (hi : i < 24) : (flipV l w).getD i 0 = if w.testBit i then -(l.getD i 0) else l.getD i 0 := by
  simp [flipV, flipN, List.getD, hi]
theorem flipTo_all (l : List Int) (w : Nat) (hl : l.length = 24) : flipTo l w 24 = flipV l w := by
  unfold flipTo flipV flipN
  rw [hl]
  apply List.map_congr_left
  intro i hi
  have hi' : i < 24 := by simpa using hi
  simp [hi']

/-- Signs changed at each place of a list, one after the other. -/
def flipL (l : List Int) (ps : List Nat) : List Int := ps.foldl (fun s p => s.set p (-(s.getD p 0))) l
theorem flipL_snoc (l : List Int) (ps : List Nat) (p : Nat) : flipL l (ps ++ [p]) = (flipL l ps).set p (-((flipL l ps).getD p 0)) := by simp [flipL]
theorem flipL_length (l : List Int) (ps : List Nat) : (flipL l ps).length = l.length := by
  induction ps generalizing l with
  | nil => rfl
  | cons p ps ih =>
    show (flipL (l.set p _) ps).length = _
    rw [ih, List.length_set]

theorem flipTo_hit (l : List Int) {w k : Nat} (hk : k < l.length) (h : w.testBit k = true) : (flipTo l w k).set k (-((flipTo l w k).getD k 0)) = flipTo l w (k + 1) := by
  have e : (flipTo l w k).getD k 0 = l.getD k 0 := by rw [flipTo_get l w k k hk]; simp
  rw [e]
  apply List.ext_getElem (by simp [flipTo])
  intro i h1 h2
  rw [List.getElem_set]
  by_cases hik : k = i
  · subst hik
    simp [flipTo, h]
  · rw [if_neg hik]
    simp only [flipTo, List.getElem_map, List.getElem_range]
    by_cases h3 : i < k
    · simp [h3, show i < k + 1 by omega]
    · simp [h3, show ¬ i < k + 1 by omega]
theorem flipTo_miss (l : List Int) {w k : Nat} (h : w.testBit k = false) : flipTo l w k = flipTo l w (k + 1) := by
  unfold flipTo
  apply List.map_congr_left
  intro i _
  by_cases hik : k = i
  · subst hik
    simp [h]
  · by_cases h3 : i < k
    · simp [h3, show i < k + 1 by omega]
    · simp [h3, show ¬ i < k + 1 by omega]

theorem flipL_to (l : List Int) (w k : Nat) (hk : k ≤ l.length) : flipL l (placesTo w k) = flipTo l w k := by
  induction k with
  | zero => exact (flipTo_zero l w).symm
  | succ k ih =>
    cases h : w.testBit k
    · rw [placesTo_miss h, ih (by omega), flipTo_miss l h]
    · rw [placesTo_hit h, flipL_snoc, ih (by omega), flipTo_hit l (by omega) h]
theorem flipL_all (l : List Int) (w : Nat) (hl : l.length = 24) : flipL l (places w) = flipV l w := by
  unfold places
  rw [flipL_to l w 24 (by omega), flipTo_all l w hl]

/-- Sizes do not grow. -/
theorem flipL_bd {l : List Int} {B : Int} (hB : 0 ≤ B) (h : ∀ i, -B ≤ l.getD i 0 ∧ l.getD i 0 ≤ B) (ps : List Nat) (i : Nat) : -B ≤ (flipL l ps).getD i 0 ∧ (flipL l ps).getD i 0 ≤ B := by
  induction ps generalizing l with
  | nil => exact h i
  | cons p ps ih =>
    show -B ≤ (flipL (l.set p (-(l.getD p 0))) ps).getD i 0 ∧ _
    apply ih
    intro j
    by_cases hjl : j < l.length
    · by_cases hj : p = j
      · subst hj
        have := h p
        have e : (l.set p (-(l.getD p 0))).getD p 0 = -(l.getD p 0) := by simp [List.getD, hjl]
        rw [e]
        omega
      · have e : (l.set p (-(l.getD p 0))).getD j 0 = l.getD j 0 := by simp [List.getD, hj]
        rw [e]
        exact h j
    · have e : (l.set p (-(l.getD p 0))).getD j 0 = 0 := by simp [List.getD, hjl]
      rw [e]
      omega

end Go.Proofs.Ythbgmmjgenkjpaa.Res
