/- Contracts of LatticeInner. -/
import Derived.Test.YteedbejlbjfkgaaGreatWVec
import Derived.Test.YteedbejlbjfkgaaGreatPl
import Derived.IntWalk
import Derived.BigQuiet
import Derived.Deep.QuietTactic
set_option linter.unusedVariables false
namespace Go.Proofs.YteedbejlbjfkgaaGreat
open Go.RowKit Res

theorem vecOk_get {l : List Int} (h : vecOk l = true) (k : Nat) : -100000 ≤ l.getD k 0 ∧ l.getD k 0 ≤ 100000 := by
  unfold vecOk at h
  rw [Bool.and_eq_true, List.all_eq_true] at h
  by_cases hk : k < l.length
  · have := h.1 l[k] (List.getElem_mem hk)
    rw [inB_iff] at this
    simpa [List.getD, hk] using this
  · simp [List.getD, hk]

theorem vecOk_length {l : List Int} (h : vecOk l = true) : l.length = 24 := by
  unfold vecOk at h
  rw [Bool.and_eq_true] at h
  simpa using h.2

theorem prod_bd {a b : Int} (ha : -100000 ≤ a ∧ a ≤ 100000) (hb : -100000 ≤ b ∧ b ≤ 100000) : -10000000000 ≤ a * b ∧ a * b ≤ 10000000000 := by
  have h1 : (a * b).natAbs ≤ 100000 * 100000 := by
    rw [Int.natAbs_mul]
    exact Nat.mul_le_mul (by omega) (by omega)
  omega

theorem dotTo_bd {l m : List Int} (hl : vecOk l = true) (hm : vecOk m = true) (k : Nat) : -(10000000000 * (k : Int)) ≤ dotTo l m k ∧ dotTo l m k ≤ 10000000000 * (k : Int) := by
  induction k with
  | zero => simp [dotTo]
  | succ k ih =>
    have := prod_bd (vecOk_get hl k) (vecOk_get hm k)
    simp only [dotTo]
    omega

end Go.Proofs.YteedbejlbjfkgaaGreat
