/- Plain laws: the vectors that the program makes lie in the lattice; inner products; contracts of LatticeInner and LatticeIn as the laws use them. -/
import Derived.Test.YteedbejlbjfkgaaGreatPl
import Derived.Test.YteedbejlbjfkgaaGreatWInner
import Derived.Test.YteedbejlbjfkgaaGreatWAdd
import Derived.Test.YteedbejlbjfkgaaGreatWCode
set_option linter.unusedVariables false
namespace Go.Proofs.YteedbejlbjfkgaaGreat
open Res

theorem rep_get (n i : Nat) (a : Int) (h : i < n) : (List.replicate n a).getD i 0 = a := by simp [List.getD, h]
theorem zeros_sum : sumTo (List.replicate 24 0) 24 = 0 := by decide +kernel
theorem zeros_dot : dotTo (List.replicate 24 0) (List.replicate 24 0) 24 = 0 := by decide +kernel
theorem getD_set (l : List Int) (p i : Nat) (a : Int) (hp : p < l.length) : (l.set p a).getD i 0 = if i = p then a else l.getD i 0 := by
  simp only [List.getD, List.getElem?_set]
  by_cases h : p = i
  · subst h
    simp [hp]
  · simp [h, show ¬ i = p from fun e => h e.symm]
theorem sum_set (l : List Int) (p : Nat) (a : Int) (hp : p < l.length) (k : Nat) : sumTo (l.set p a) k = if p < k then sumTo l k - l.getD p 0 + a else sumTo l k := by
  induction k with
  | zero => simp [sumTo]
  | succ k ih =>
    simp only [sumTo]
    rw [ih, getD_set l p k a hp]
    by_cases h1 : k = p
    · subst h1
      rw [if_neg (by omega), if_pos rfl, if_pos (by omega)]
      omega
    · rw [if_neg h1]
      by_cases h2 : p < k
      · rw [if_pos h2, if_pos (by omega)]
        omega
      · rw [if_neg h2, if_neg (by omega)]
theorem dot_set (l : List Int) (p : Nat) (a : Int) (hp : p < l.length) (k : Nat) : dotTo (l.set p a) (l.set p a) k = if p < k then dotTo l l k - l.getD p 0 * l.getD p 0 + a * a else dotTo l l k := by
  induction k with
  | zero => simp [dotTo]
  | succ k ih =>
    simp only [dotTo]
    rw [ih, getD_set l p k a hp]
    by_cases h1 : k = p
    · subst h1
      rw [if_neg (by omega), if_pos rfl, if_pos (by omega)]
      omega
    · rw [if_neg h1]
      by_cases h2 : p < k
      · rw [if_pos h2, if_pos (by omega)]
        omega
      · rw [if_neg h2, if_neg (by omega)]
theorem vecOk_of {l : List Int} (hl : l.length = 24) (h : ∀ i, i < 24 → -100000 ≤ l.getD i 0 ∧ l.getD i 0 ≤ 100000) : vecOk l = true := by
  unfold vecOk
  rw [Bool.and_eq_true, List.all_eq_true, beq_iff_eq]
  refine ⟨fun x hx => ?_, hl⟩
  obtain ⟨i, hi, rfl⟩ := List.mem_iff_getElem.1 hx
  rw [inB_iff]
  have := h i (by omega)
  rw [getD_elem l i hi] at this
  exact this
theorem latOk_of {l : List Int} (h1 : vecOk l = true) (h2 : LatP l) : latOk l = true := by
  unfold latOk
  rw [h1, (latB_iff l).2 h2]
  rfl
theorem latP_of {l : List Int} (h : latOk l = true) : LatP l := by
  unfold latOk at h
  rw [Bool.and_eq_true] at h
  exact (latB_iff l).1 h.2
theorem vec_of_lat {l : List Int} (h : latOk l = true) : vecOk l = true := by
  unfold latOk at h
  rw [Bool.and_eq_true] at h
  exact h.1

/-- Multiples of 4. -/
theorem latP_quads {l : List Int} (h : ∀ i, i < 24 → l.getD i 0 % 4 = 0) (hs : sumTo l 24 % 8 = 0) : LatP l := by
  have h0 := h 0 (by omega)
  refine ⟨?_, ?_, ?_⟩
  · intro i hi
    have := h i hi
    omega
  · have e : aw l = 0 := by
      apply word_ext (aw_lt l) (by omega)
      intro i hi
      have := h i hi
      rw [aw_bit l i hi, Nat.zero_testBit, decide_eq_false_iff_not]
      omega
    rw [e]
    exact codeB_zero
  · omega




end Go.Proofs.YteedbejlbjfkgaaGreat

namespace Go.Proofs.YteedbejlbjfkgaaGreat
open Go.RowKit Res

theorem latIn_c (l : List Int) (t : Bool) (hl : l.length ≤ 24) (h : latOk l = t) :
    ∀ a c w, Reads .i64 w a l → Calls Tryz.prog 11 #[.slice a l.length c] w fun e w' => e = .returned (.bool t) ∧ Below w.heap.size w w' :=
  fun a c w hr => by rw [← h]; exact implLatticeIn_any a c l w (by omega) hr

theorem dot_nonneg (l : List Int) (k : Nat) : 0 ≤ dotTo l l k := by
  induction k with
  | zero => simp [dotTo]
  | succ k ih =>
    simp only [dotTo]
    have := sq_pos (l.getD k 0)
    omega
/-- Are the first k numbers noughts? -/
def zTo (l : List Int) : Nat → Bool
  | 0 => true
  | k + 1 => zTo l k && (l.getD k 0 == 0)
theorem dot_zero (l : List Int) (k : Nat) : (dotTo l l k == 0) = zTo l k := by
  induction k with
  | zero => simp [dotTo, zTo]
  | succ k ih =>
    simp only [zTo]
    rw [← ih, Bool.eq_iff_iff, Bool.and_eq_true, beq_iff_eq, beq_iff_eq, beq_iff_eq]
    simp only [dotTo]
    have h1 := dot_nonneg l k
    have h2 := sq_pos (l.getD k 0)
    constructor
    · intro h
      have h3 : l.getD k 0 * l.getD k 0 = 0 := by omega
      refine ⟨by omega, ?_⟩
      rcases Int.mul_eq_zero.1 h3 with h | h <;> exact h
    · rintro ⟨h3, h4⟩
      rw [h3, h4]
      rfl
theorem le_of_sq {x y : Int} (hy : 0 ≤ y) (h : x * x ≤ y * y) : x ≤ y := by
  by_cases hxy : x ≤ y
  · exact hxy
  · exfalso
    have h1 : 0 ≤ x - y - 1 := by omega
    have h2 : 0 ≤ x + y := by omega
    have h3 := Int.mul_nonneg h1 h2
    grind
theorem cauchy_step {W U V a b : Int} (hU : 0 ≤ U) (hV : 0 ≤ V) (h : W * W ≤ U * V) : (W + a * b) * (W + a * b) ≤ (U + a * a) * (V + b * b) := by
  have ha := sq_pos a
  have hb := sq_pos b
  have h1 : 2 * (W * (a * b)) ≤ U * (b * b) + V * (a * a) := by
    apply le_of_sq
    · have := Int.mul_nonneg hU hb
      have := Int.mul_nonneg hV ha
      omega
    · have h2 := sq_pos (U * (b * b) - V * (a * a))
      have h3 : 0 ≤ (U * V - W * W) * ((a * b) * (a * b)) := Int.mul_nonneg (by omega) (sq_pos (a * b))
      grind
  grind
theorem cauchy (l m : List Int) (k : Nat) : dotTo l m k * dotTo l m k ≤ dotTo l l k * dotTo m m k := by
  induction k with
  | zero => simp [dotTo]
  | succ k ih =>
    simp only [dotTo]
    exact cauchy_step (dot_nonneg l k) (dot_nonneg m k) ih
theorem flip_vec {l : List Int} (n : Nat) (h : vecOk l = true) : vecOk (flipV l n) = true := by
  refine vecOk_of (flipV_length l n) fun i hi => ?_
  have := vecOk_get h i
  rw [flipV_get l n i hi]
  split <;> omega
theorem flip_lat {l : List Int} {n : Nat} (h : vecOk l = true) (hn : n < 16777216) (hc : codeB n = true) : latOk (flipV l n) = latOk l := by
  unfold latOk
  rw [flip_vec n h, h, latB_flip (vecOk_length h) hn hc]

end Go.Proofs.YteedbejlbjfkgaaGreat
