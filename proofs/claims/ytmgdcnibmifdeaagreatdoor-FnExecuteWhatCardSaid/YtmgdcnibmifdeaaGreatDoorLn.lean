/- Plain models of the line: sums of generators, moves. -/
import Derived.Test.YtmgdcnibmifdeaaGreatDoorRes
import Derived.Test.YtmgdcnibmifdeaaGreatDoorWd
set_option linter.unusedVariables false
namespace Go.Proofs.YtmgdcnibmifdeaaGreatDoor.Res

/-- The sum of the generators of the places below k of a word. -/
def lsTo (w : Nat) : Nat → Nat
  | 0 => 0
  | k + 1 => if w.testBit k then lsTo w k ^^^ gen k else lsTo w k
def lineSum (w : Nat) : Nat := lsTo w 23

theorem gen_le (i : Nat) (h : i < 23) : gen i < 2 ^ 24 := by
  have := genTo_le i h 23 (by omega)
  show genTo i 23 < 16777216
  omega

theorem lsTo_lt (w k : Nat) (hk : k ≤ 23) : lsTo w k < 2 ^ 24 := by
  induction k with
  | zero => simp [lsTo]
  | succ k ih =>
    simp only [lsTo]
    split
    · exact Nat.xor_lt_two_pow (ih (by omega)) (gen_le k (by omega))
    · exact ih (by omega)

theorem lsTo_hit {w k : Nat} (h : w.testBit k = true) : lsTo w (k + 1) = lsTo w k ^^^ gen k := by simp [lsTo, h]
theorem lsTo_miss {w k : Nat} (h : w.testBit k = false) : lsTo w (k + 1) = lsTo w k := by simp [lsTo, h]

/-- The sum over a list of places. -/
def xorL (l : List Nat) : Nat := l.foldl (fun s p => if p < 23 then s ^^^ gen p else s) 0
theorem xorL_snoc (l : List Nat) (p : Nat) : xorL (l ++ [p]) = if p < 23 then xorL l ^^^ gen p else xorL l := by simp [xorL]
theorem xorL_places (w k : Nat) (hk : k ≤ 23) : xorL (placesTo w k) = lsTo w k := by
  induction k with
  | zero => rfl
  | succ k ih =>
    cases h : w.testBit k
    · rw [placesTo_miss h, lsTo_miss h, ih (by omega)]
    · rw [placesTo_hit h, lsTo_hit h, xorL_snoc, if_pos (by omega), ih (by omega)]
theorem xorL_all (w : Nat) : xorL (places w) = lineSum w := by
  unfold places lineSum
  cases h : w.testBit 23
  · rw [placesTo_miss h, xorL_places w 23 (by omega)]
  · rw [placesTo_hit h, xorL_snoc, if_neg (by omega), xorL_places w 23 (by omega)]
theorem xorL_lt (l : List Nat) : xorL l < 2 ^ 24 := by
  have : ∀ (l : List Nat) (s : Nat), s < 2 ^ 24 → l.foldl (fun s p => if p < 23 then s ^^^ gen p else s) s < 2 ^ 24 := by
    intro l
    induction l with
    | nil => intro s hs; exact hs
    | cons p l ih =>
      intro s hs
      simp only [List.foldl_cons]
      apply ih
      split
      · exact Nat.xor_lt_two_pow hs (gen_le p (by omega))
      · exact hs
  exact this l 0 (by decide)
theorem take_snoc {α : Type} (l : List α) (k : Nat) (h : k < l.length) : l.take (k + 1) = l.take k ++ [l[k]] := List.take_succ_eq_append_getElem h
theorem xorL_hit {l : List Nat} {k : Nat} (h : k < l.length) (hp : l[k] < 23) : xorL (l.take (k + 1)) = xorL (l.take k) ^^^ gen l[k] := by
  rw [take_snoc l k h, xorL_snoc, if_pos hp]
theorem xorL_miss {l : List Nat} {k : Nat} (h : k < l.length) (hp : ¬ l[k] < 23) : xorL (l.take (k + 1)) = xorL (l.take k) := by
  rw [take_snoc l k h, xorL_snoc, if_neg hp]

/-- Are four numbers a move? -/
def mOk (a b c d : Int) : Bool := inB a 0 22 && inB b 0 22 && inB c 0 22 && inB d 0 22 && sq ((a * d - b * c) % 23)

/-- The moved place. -/
def lmTop (a b x : Nat) : Nat := if x = 23 then a else (a * x + b) % 23
def lm (a b c d x : Nat) : Nat := if lmTop c d x = 0 then 23 else lmTop a b x * invN (lmTop c d x) % 23

theorem lmTop_far {a b : Nat} : lmTop a b 23 = a := by simp [lmTop]
theorem lmTop_near {a b x : Nat} (h : x ≠ 23) : lmTop a b x = (a * x + b) % 23 := by simp [lmTop, h]
theorem lmTop_le {a b x : Nat} (ha : a ≤ 22) : lmTop a b x ≤ 22 := by unfold lmTop; split <;> omega
theorem lm_le (a b c d x : Nat) : lm a b c d x ≤ 23 := by unfold lm; split <;> omega

end Go.Proofs.YtmgdcnibmifdeaaGreatDoor.Res
