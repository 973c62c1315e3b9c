/- Plain laws: sorted lists, merged lists. -/
import Derived.PlainAid
set_option linter.unusedVariables false
namespace Go.Proofs.YtmgdcnibmifdeaaGreatDoor.Res

def leI (x y : Int) : Bool := decide (x ≤ y)
/-- The numbers in ascending order. -/
def srt (l : List Int) : List Int := l.mergeSort leI
theorem leI_tr : ∀ a b c : Int, leI a b = true → leI b c = true → leI a c = true := fun a b c h1 h2 => by
  simp only [leI, decide_eq_true_eq] at *; omega
theorem leI_to : ∀ a b : Int, (leI a b || leI b a) = true := fun a b => by
  simp only [leI, Bool.or_eq_true, decide_eq_true_eq]; omega
theorem srt_length (l : List Int) : (srt l).length = l.length := List.length_mergeSort l
theorem srt_perm (l : List Int) : (srt l).Perm l := List.mergeSort_perm l leI
theorem srt_pair (l : List Int) : (srt l).Pairwise (fun a b => leI a b = true) := List.pairwise_mergeSort leI_tr leI_to l
theorem srt_uniq {l m : List Int} (h : m.Perm l) (hp : m.Pairwise (fun a b => leI a b = true)) : m = srt l := by
  refine List.Perm.eq_of_pairwise (le := fun a b => leI a b = true) (fun a b _ _ h1 h2 => ?_) hp (srt_pair l) (h.trans (srt_perm l).symm)
  simp only [leI, decide_eq_true_eq] at h1 h2
  omega
theorem srt_of_perm {l m : List Int} (h : l.Perm m) : srt l = srt m := srt_uniq ((srt_perm l).trans h) (srt_pair l)
theorem srt_short {l : List Int} (h : l.length < 2) : srt l = l := by
  match l, h with
  | [], _ => simp [srt]
  | [x], _ => simp [srt]
/-- Two sorted halves merged. -/
theorem srt_merge (l m : List Int) : List.merge (srt l) (srt m) leI = srt (l ++ m) := by
  refine srt_uniq ?_ ?_
  · exact (List.merge_perm_append (le := leI)).trans ((srt_perm l).append (srt_perm m))
  · exact List.pairwise_merge leI_tr leI_to _ _ (srt_pair l) (srt_pair m)
theorem drop_cons {l : List Int} {i : Nat} (h : i < l.length) : l.drop i = l.getD i 0 :: l.drop (i + 1) := by
  rw [List.drop_eq_getElem_cons h]
  simp [List.getD, h]
theorem merge_left {A B : List Int} {i k : Nat} (hi : i < A.length) (h : B.length ≤ k ∨ (k < B.length ∧ A.getD i 0 ≤ B.getD k 0)) :
    List.merge (A.drop i) (B.drop k) leI = A.getD i 0 :: List.merge (A.drop (i + 1)) (B.drop k) leI := by
  rw [drop_cons hi]
  rcases h with h | ⟨h, hle⟩
  · rw [List.drop_eq_nil_of_le h, List.merge_right, List.merge_right]
  · rw [drop_cons h]
    exact List.cons_merge_cons_pos _ _ _ (by simpa [leI] using hle)
theorem merge_right' {A B : List Int} {i k : Nat} (hk : k < B.length) (h : A.length ≤ i ∨ (i < A.length ∧ ¬ A.getD i 0 ≤ B.getD k 0)) :
    List.merge (A.drop i) (B.drop k) leI = B.getD k 0 :: List.merge (A.drop i) (B.drop (k + 1)) leI := by
  rw [drop_cons hk]
  rcases h with h | ⟨h, hle⟩
  · rw [List.drop_eq_nil_of_le h, List.nil_merge, List.nil_merge]
  · rw [drop_cons h]
    exact List.cons_merge_cons_neg _ _ _ (by simpa [leI] using hle)
theorem merge_end {A B : List Int} {i k : Nat} (hi : A.length ≤ i) (hk : B.length ≤ k) : List.merge (A.drop i) (B.drop k) leI = [] := by
  rw [List.drop_eq_nil_of_le hi, List.drop_eq_nil_of_le hk, List.merge_right]
/-- In order by places. -/
theorem srt_order {l : List Int} {i j : Nat} (hij : i < j) (hj : j < (srt l).length) : (srt l).getD i 0 ≤ (srt l).getD j 0 := by
  have h := List.pairwise_iff_getElem.1 (srt_pair l) i j (by omega) hj hij
  have hi : i < (srt l).length := by omega
  simp only [leI, decide_eq_true_eq] at h
  simpa [List.getD, hi, hj] using h

end Go.Proofs.YtmgdcnibmifdeaaGreatDoor.Res
