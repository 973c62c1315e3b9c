/- Plain laws on squares modulo 23. -/
import Derived.Test.YtmnfbdbpanlchaaRes
namespace Go.Proofs.Ytmnfbdbpanlchaa.Res

/-- Does ResidueSquare hold? -/
def rs (n : Int) : Bool := inB n 0 22 && sq n

theorem rs_facts : ∀ n : Nat, n < 23 → rs (n : Int) = true → rs (23 - (n : Int)) = false ∧ rs (2 * (n : Int) % 23) = true ∧ rs ((n : Int) * (n : Int) % 23) = true := by decide +kernel

theorem rs_law {n : Int} (h : rs n = true) : rs (23 - n) = false ∧ rs (2 * n % 23) = true ∧ rs (n * n % 23) = true := by
  have hb : inB n 0 22 = true := by unfold rs at h; rw [Bool.and_eq_true] at h; exact h.1
  rw [inB_iff] at hb
  obtain ⟨m, rfl⟩ := Int.eq_ofNat_of_zero_le hb.1
  exact rs_facts m (by omega) h

theorem rs_range {n : Int} (h : rs n = true) : 0 ≤ n ∧ n ≤ 22 := by
  have hb : inB n 0 22 = true := by unfold rs at h; rw [Bool.and_eq_true] at h; exact h.1
  rwa [inB_iff] at hb

end Go.Proofs.Ytmnfbdbpanlchaa.Res
