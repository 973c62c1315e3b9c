/- Plain laws: shapes are sorted and tell the square. -/
import Derived.Test.YthbgmmjgenkjpaaLatW
import Derived.Test.YthbgmmjgenkjpaaWShape
set_option linter.unusedVariables false
namespace Go.Proofs.Ythbgmmjgenkjpaa
open Go.RowKit Res

/-- The sum of the squares of a list. -/
def sqs : List Int → Int
  | [] => 0
  | x :: l => x * x + sqs l
theorem sqs_append (l m : List Int) : sqs (l ++ m) = sqs l + sqs m := by
  induction l with
  | nil => simp [sqs]
  | cons x l ih => simp only [List.cons_append, sqs, ih]; omega
theorem sqs_perm {l m : List Int} (h : l.Perm m) : sqs l = sqs m := by
  induction h with
  | nil => rfl
  | cons x _ ih => simp only [sqs, ih]
  | swap x y l => simp only [sqs]; omega
  | trans _ _ h1 h2 => exact h1.trans h2
theorem dot_sqs (l : List Int) (k : Nat) (hk : k ≤ l.length) : dotTo l l k = sqs (l.take k) := by
  induction k with
  | zero => rfl
  | succ k ih =>
    rw [List.take_succ_eq_append_getElem (by omega), sqs_append]
    simp only [dotTo, sqs]
    rw [ih (by omega), getD_elem l k (by omega)]
    omega
theorem sqs_all (l : List Int) (n : Nat) (h : l.length = n) : dotTo l l n = sqs l := by
  rw [dot_sqs l n (by omega), List.take_of_length_le (by omega)]
theorem absTo_get (l : List Int) (i : Nat) (hi : i < 24) : (absTo l 24).getD i 0 = (((l.getD i 0).natAbs : Nat) : Int) := by
  rw [getD_elem _ i (by rw [absTo_length]; exact hi)]
  simp [absTo]
theorem abs_dot (l : List Int) (k : Nat) (hk : k ≤ 24) : dotTo (absTo l 24) (absTo l 24) k = dotTo l l k := by
  induction k with
  | zero => rfl
  | succ k ih =>
    simp only [dotTo]
    rw [ih (by omega), absTo_get l k (by omega)]
    generalize l.getD k 0 = x
    rcases Int.natAbs_eq x with h | h
    · rw [← h]
    · have e : ((x.natAbs : Nat) : Int) = -x := by omega
      rw [e, Int.neg_mul_neg]
theorem shape_dot (l : List Int) : dotTo (shapeV l) (shapeV l) 24 = dotTo l l 24 := by
  rw [sqs_all _ 24 (shapeV_length l), ← abs_dot l 24 (Nat.le_refl _), sqs_all _ 24 (absTo_length l 24)]
  exact sqs_perm (srt_perm _)
theorem shape_mem (l : List Int) {i : Nat} (hi : i < 24) : ∃ j, j < 24 ∧ (shapeV l).getD i 0 = (((l.getD j 0).natAbs : Nat) : Int) := by
  have hil : i < (shapeV l).length := by rw [shapeV_length]; exact hi
  have hm : (shapeV l)[i] ∈ absTo l 24 := (srt_perm _).mem_iff.1 (List.getElem_mem hil)
  unfold absTo at hm
  obtain ⟨j, hj, e⟩ := List.mem_map.1 hm
  refine ⟨j, by simpa using hj, ?_⟩
  rw [getD_elem _ i hil]
  exact e.symm
theorem shape_nonneg (l : List Int) {i : Nat} (hi : i < 24) : 0 ≤ (shapeV l).getD i 0 := by
  obtain ⟨j, -, e⟩ := shape_mem l hi
  rw [e]
  exact Int.natCast_nonneg _
theorem shape_vec {l : List Int} (h : vecOk l = true) : vecOk (shapeV l) = true := by
  refine vecOk_of (shapeV_length l) fun i hi => ?_
  obtain ⟨j, -, e⟩ := shape_mem l hi
  have := vecOk_get h j
  rw [e]
  omega
theorem shape_order (l : List Int) {i : Nat} (hi : i + 1 < 24) : (shapeV l).getD i 0 ≤ (shapeV l).getD (i + 1) 0 :=
  srt_order (by omega) (by have := shapeV_length l; unfold shapeV at this; omega)

end Go.Proofs.Ythbgmmjgenkjpaa
