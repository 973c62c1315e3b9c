/- Plain laws on inner products, and contracts of LatticeInner and LatticeIn as the laws use them. -/
import Derived.Test.YthbgmmjgenkjpaaLatV
import Derived.Test.YthbgmmjgenkjpaaWCode
set_option linter.unusedVariables false
namespace Go.Proofs.Ythbgmmjgenkjpaa
open Go.RowKit Res

theorem inner_c (l m : List Int) (y : Int) (h1 : vecOk l = true) (h2 : vecOk m = true) (hy : dotTo l m 24 = y) :
    ∀ a c b d w, Reads .i64 w a l → Reads .i64 w b m → Calls Try.prog 18 #[.slice a l.length c, .slice b m.length d] w fun e w' => e = .returned (.tuple #[.int .i64 y, .bool true]) ∧ Below w.heap.size w w' :=
  fun a c b d w hr hs => by rw [← hy]; exact implLatticeInner_ok a b c d l m w hr hs h1 h2
theorem latIn_c (l : List Int) (t : Bool) (hl : l.length ≤ 24) (h : latOk l = t) :
    ∀ a c w, Reads .i64 w a l → Calls Try.prog 20 #[.slice a l.length c] w fun e w' => e = .returned (.bool t) ∧ Below w.heap.size w w' :=
  fun a c w hr => by rw [← h]; exact implLatticeIn_any a c l w (by omega) hr

theorem dot_nonneg (l : List Int) (k : Nat) : 0 ≤ dotTo l l k := by
  induction k with
  | zero => simp [dotTo]
  | succ k ih =>
    simp only [dotTo]
    have := sq_pos (l.getD k 0)
    omega
/-- Are the first k numbers noughts? -/
def zTo (l : List Int) : Nat → Bool
  | 0 => true
  | k + 1 => zTo l k && (l.getD k 0 == 0)
theorem dot_zero (l : List Int) (k : Nat) : (dotTo l l k == 0) = zTo l k := by
  induction k with
  | zero => simp [dotTo, zTo]
  | succ k ih =>
    simp only [zTo]
    rw [← ih, Bool.eq_iff_iff, Bool.and_eq_true, beq_iff_eq, beq_iff_eq, beq_iff_eq]
    simp only [dotTo]
    have h1 := dot_nonneg l k
    have h2 := sq_pos (l.getD k 0)
    constructor
    · intro h
      have h3 : l.getD k 0 * l.getD k 0 = 0 := by omega
      refine ⟨by omega, ?_⟩
      rcases Int.mul_eq_zero.1 h3 with h | h <;> exact h
    · rintro ⟨h3, h4⟩
      rw [h3, h4]
      rfl
theorem le_of_sq {x y : Int} (hy : 0 ≤ y) (h : x * x ≤ y * y) : x ≤ y := by
  by_cases hxy : x ≤ y
  · exact hxy
  · exfalso
    have h1 : 0 ≤ x - y - 1 := by omega
    have h2 : 0 ≤ x + y := by omega
    have h3 := Int.mul_nonneg h1 h2
    grind
theorem cauchy_step {W U V a b : Int} (hU : 0 ≤ U) (hV : 0 ≤ V) (h : W * W ≤ U * V) : (W + a * b) * (W + a * b) ≤ (U + a * a) * (V + b * b) := by
  have ha := sq_pos a
  have hb := sq_pos b
  have h1 : 2 * (W * (a * b)) ≤ U * (b * b) + V * (a * a) := by
    apply le_of_sq
    · have := Int.mul_nonneg hU hb
      have := Int.mul_nonneg hV ha
      omega
    · have h2 := sq_pos (U * (b * b) - V * (a * a))
      have h3 : 0 ≤ (U * V - W * W) * ((a * b) * (a * b)) := Int.mul_nonneg (by omega) (sq_pos (a * b))
      grind
  grind
theorem cauchy (l m : List Int) (k : Nat) : dotTo l m k * dotTo l m k ≤ dotTo l l k * dotTo m m k := by
  induction k with
  | zero => simp [dotTo]
  | succ k ih =>
    simp only [dotTo]
    exact cauchy_step (dot_nonneg l k) (dot_nonneg m k) ih
theorem addTo_get (l m : List Int) (i : Nat) (hi : i < 24) : (addTo l m 24).getD i 0 = l.getD i 0 + m.getD i 0 := by
  rw [getD_elem _ i (by rw [addTo_length]; exact hi)]
  simp [addTo]
theorem addTo_comm (l m : List Int) : addTo m l 24 = addTo l m 24 := by
  unfold addTo
  apply List.map_congr_left
  intro i _
  omega
theorem dot_add (l m : List Int) (k : Nat) (hk : k ≤ 24) : dotTo (addTo l m 24) (addTo l m 24) k = dotTo l l k + dotTo m m k + 2 * dotTo l m k := by
  induction k with
  | zero => rfl
  | succ k ih =>
    simp only [dotTo]
    rw [ih (by omega), addTo_get l m k (by omega)]
    grind
theorem flip_vec {l : List Int} (n : Nat) (h : vecOk l = true) : vecOk (flipV l n) = true := by
  refine vecOk_of (flipV_length l n) fun i hi => ?_
  have := vecOk_get h i
  rw [flipV_get l n i hi]
  split <;> omega
theorem flip_lat {l : List Int} {n : Nat} (h : vecOk l = true) (hn : n < 16777216) (hc : codeB n = true) : latOk (flipV l n) = latOk l := by
  unfold latOk
  rw [flip_vec n h, h, latB_flip (vecOk_length h) hn hc]

end Go.Proofs.Ythbgmmjgenkjpaa
