/- Plain laws: what brings all places back; the order divides it. -/
import Derived.Test.YteedbejlbjfkgaaOd
set_option linter.unusedVariables false
namespace Go.Proofs.Yteedbejlbjfkgaa
open Res

/-- After m steps all places are back. -/
def backP (p : List Int) (m : Nat) : Prop := ∀ i, i < 24 → itP p i m = i
theorem itP_add (p : List Int) (i m n : Nat) : itP p i (m + n) = itP p (itP p i m) n := by
  induction n with
  | zero => rfl
  | succ n ih => show goes p (itP p i (m + n)) = goes p _; rw [ih]
theorem itP_mul {p : List Int} {i n : Nat} (h : itP p i n = i) (k : Nat) : itP p i (n * k) = i := by
  induction k with
  | zero => rfl
  | succ k ih => rw [Nat.mul_succ, itP_add, ih, h]
theorem csL_mem {p : List Int} (h : okTo p 24) (k : Nat) (hk : k ≤ 24) {x : Int} (hx : x ∈ csL p k) :
    ∃ j n : Nat, j < 24 ∧ x = (n : Int) ∧ 0 < n ∧ itP p j n = j ∧ ∀ m, 0 < m → m < n → itP p j m ≠ j := by
  induction k with
  | zero => simp [csL] at hx
  | succ k ih =>
    by_cases h0 : cyN p (csS p k) k = 0
    · rw [csL_miss h0] at hx
      exact ih (by omega) hx
    · rw [csL_hit (by omega), List.mem_append] at hx
      rcases hx with h1 | h1
      · exact ih (by omega) h1
      · rw [List.mem_singleton] at h1
        have hk24 : k < 24 := by omega
        have hend := cyN_end h (csS p k) hk24
        cases hb : (csS p k).testBit k
        · obtain ⟨c1, c2, -⟩ := cycle h (csS_closed h k (by omega)).1 hk24 hb
          refine ⟨k, _, hk24, h1, c1, c2, fun m hm1 hm2 e => ?_⟩
          have hf := hend.1 m hm2
          have : (snW p (csS p k) k m).testBit (itP p k m) = true := (snW_bit p _ k m _).2 (.inr ⟨0, hm1, e.symm⟩)
          rw [this] at hf
          cases hf
        · exact absurd (cyN_seen h hk24 hb) h0
/-- The order divides what brings all places back. -/
theorem od_back {p : List Int} (h : okTo p 24) {m : Nat} (hm : backP p m) : odL (cyL p) ∣ m := by
  refine odL_of _ _ fun k hk => ?_
  have hx : (cyL p).getD k 0 ∈ cyL p := by simp [List.getD, hk]
  obtain ⟨j, n, hj, e, hn, hr, hmin⟩ := csL_mem h 24 (Nat.le_refl _) ((srt_perm _).mem_iff.1 hx)
  rw [e]
  show n ∣ m
  have h1 : itP p j (n * (m / n) + m % n) = j := by rw [Nat.div_add_mod]; exact hm j hj
  rw [itP_add, itP_mul hr] at h1
  by_cases h0 : m % n = 0
  · exact Nat.dvd_of_mod_eq_zero h0
  · exact absurd h1 (hmin _ (by omega) (Nat.mod_lt _ hn))
theorem it_cancel {p : List Int} (h : okTo p 24) {i : Nat} (hi : i < 24) (a d : Nat) (e : itP p i (a + d) = itP p i a) : itP p i d = i := by
  induction a with
  | zero => rw [Nat.zero_add] at e; exact e
  | succ a ih =>
    refine ih (goes_inj h (itP_lt h hi _) (itP_lt h hi _) ?_)
    have e1 : itP p i (a + 1 + d) = goes p (itP p i (a + d)) := by rw [show a + 1 + d = a + d + 1 by omega]; rfl
    rw [← e1, e]
    rfl
theorem it_twelve {p : List Int} (h : okTo p 24) {i : Nat} (hi : i < 24) (a b : Nat) (hab : a < b) (hb : b ≤ 4) (e : itP p i b = itP p i a) : itP p i 12 = i := by
  have h1 := it_cancel h hi a (b - a) (by rw [show a + (b - a) = b by omega]; exact e)
  have hd : b - a = 1 ∨ b - a = 2 ∨ b - a = 3 ∨ b - a = 4 := by omega
  rcases hd with hd | hd | hd | hd <;> rw [hd] at h1
  · exact itP_mul h1 12
  · exact itP_mul h1 6
  · exact itP_mul h1 4
  · exact itP_mul h1 3

end Go.Proofs.Yteedbejlbjfkgaa
