/- Plain laws: the least common multiple of the lengths of the cycles. -/
import Derived.Test.YteedbejlbjfkgaaCyO
set_option linter.unusedVariables false
namespace Go.Proofs.Yteedbejlbjfkgaa.Res

def odTo (l : List Int) : Nat → Nat
  | 0 => 1
  | k + 1 => odTo l k / Nat.gcd (odTo l k) (l.getD k 0).toNat * (l.getD k 0).toNat
def odL (l : List Int) : Nat := odTo l l.length
theorem odTo_lcm (l : List Int) (k : Nat) : odTo l (k + 1) = Nat.lcm (odTo l k) (l.getD k 0).toNat := by
  show odTo l k / Nat.gcd (odTo l k) (l.getD k 0).toNat * (l.getD k 0).toNat = _
  generalize odTo l k = m
  generalize (l.getD k 0).toNat = c
  unfold Nat.lcm
  obtain ⟨x, hx⟩ := Nat.gcd_dvd_left m c
  by_cases h0 : Nat.gcd m c = 0
  · rw [h0, Nat.div_zero, Nat.div_zero, Nat.zero_mul]
  · have hp : 0 < Nat.gcd m c := Nat.pos_of_ne_zero h0
    generalize Nat.gcd m c = g at *
    subst hx
    rw [Nat.mul_div_cancel_left _ hp, Nat.mul_assoc, Nat.mul_div_cancel_left _ hp]
theorem small_dvd : ∀ c, c < 25 → 1 ≤ c → c ∣ 5354228880 := by decide +kernel
theorem odTo_dvd {l : List Int} (h : ∀ k, k < l.length → 1 ≤ l.getD k 0 ∧ l.getD k 0 ≤ 24) (k : Nat) (hk : k ≤ l.length) : odTo l k ∣ 5354228880 := by
  induction k with
  | zero => exact Nat.one_dvd _
  | succ k ih =>
    rw [odTo_lcm]
    have := h k (by omega)
    exact Nat.lcm_dvd (ih (by omega)) (small_dvd _ (by omega) (by omega))
theorem odTo_bd {l : List Int} (h : ∀ k, k < l.length → 1 ≤ l.getD k 0 ∧ l.getD k 0 ≤ 24) (k : Nat) (hk : k ≤ l.length) : 1 ≤ odTo l k ∧ odTo l k ≤ 5354228880 := by
  have hd := odTo_dvd h k hk
  exact ⟨Nat.pos_of_dvd_of_pos hd (by omega), Nat.le_of_dvd (by omega) hd⟩
theorem odTo_mono (l : List Int) {j k : Nat} (h : j ≤ k) : odTo l j ∣ odTo l k := by
  induction k with
  | zero => have : j = 0 := by omega
            subst this; exact Nat.dvd_refl _
  | succ k ih =>
    by_cases e : j = k + 1
    · subst e; exact Nat.dvd_refl _
    · rw [odTo_lcm]
      exact Nat.dvd_trans (ih (by omega)) (Nat.dvd_lcm_left _ _)
/-- Every length divides it. -/
theorem odL_dvd (l : List Int) {k : Nat} (hk : k < l.length) : (l.getD k 0).toNat ∣ odL l := by
  refine Nat.dvd_trans ?_ (odTo_mono l (show k + 1 ≤ l.length by omega))
  rw [odTo_lcm]
  exact Nat.dvd_lcm_right _ _
/-- It divides what all lengths divide. -/
theorem odL_of (l : List Int) (m : Nat) (h : ∀ k, k < l.length → (l.getD k 0).toNat ∣ m) : odL l ∣ m := by
  have key : ∀ k, k ≤ l.length → odTo l k ∣ m := by
    intro k
    induction k with
    | zero => intro _; exact Nat.one_dvd _
    | succ k ih =>
      intro hk
      rw [odTo_lcm]
      exact Nat.lcm_dvd (ih (by omega)) (h k (by omega))
  exact key _ (Nat.le_refl _)

end Go.Proofs.Yteedbejlbjfkgaa.Res
