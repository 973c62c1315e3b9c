/- Plain laws: vectors of the lattice by their word of halves; sums, signs, inner products, squares. -/
import Derived.Test.YthbgmmjgenkjpaaCdLin
import Derived.Test.YthbgmmjgenkjpaaLatIn
import Derived.Test.YthbgmmjgenkjpaaLatF
import Derived.Test.YthbgmmjgenkjpaaDotP
set_option linter.unusedVariables false
namespace Go.Proofs.Ythbgmmjgenkjpaa.Res

/-- The places below k where p holds. -/
def wordP (p : Nat → Bool) : Nat → Nat
  | 0 => 0
  | k + 1 => if p k then wordP p k ||| 2 ^ k else wordP p k
theorem wordP_lt (p : Nat → Bool) (k : Nat) : wordP p k < 2 ^ k := by
  induction k with
  | zero => simp [wordP]
  | succ k ih =>
    simp only [wordP]
    have h1 : wordP p k < 2 ^ (k + 1) := Nat.lt_trans ih (Nat.pow_lt_pow_right (by omega) (by omega))
    split
    · exact Nat.or_lt_two_pow h1 (Nat.pow_lt_pow_right (by omega) (by omega))
    · exact h1
theorem wordP_bit (p : Nat → Bool) (k i : Nat) : (wordP p k).testBit i = (decide (i < k) && p i) := by
  induction k with
  | zero => simp [wordP]
  | succ k ih =>
    simp only [wordP]
    by_cases hp : p k = true
    · rw [if_pos hp, Nat.testBit_or, ih, Nat.testBit_two_pow]
      by_cases hik : i = k
      · subst hik; simp [hp]
      · by_cases h3 : i < k
        · simp [h3, show i < k + 1 by omega, show ¬ k = i by omega]
        · simp [h3, show ¬ i < k + 1 by omega, show ¬ k = i by omega]
    · rw [if_neg hp, ih]
      by_cases hik : i = k
      · subst hik; simp [hp]
      · by_cases h3 : i < k
        · simp [h3, show i < k + 1 by omega]
        · simp [h3, show ¬ i < k + 1 by omega]
theorem wordP_24 (p : Nat → Bool) : wordP p 24 < 16777216 := wordP_lt p 24
theorem rw4_word (l : List Int) (r k : Nat) : rw4 l r k = wordP (fun i => decide (r = (l.getD i 0 % 4).toNat)) k := by
  induction k with
  | zero => rfl
  | succ k ih =>
    simp only [rw4, wordP, ih]
    by_cases h : r = (l.getD k 0 % 4).toNat
    · rw [if_pos h, if_pos (decide_eq_true h)]
    · rw [if_neg h, if_neg (by rw [decide_eq_true_eq]; exact h)]
theorem bitN_word (p : Nat → Bool) (k i : Nat) (hi : i < k) : bitN (wordP p k) i = if p i then 1 else 0 := by
  have := wordP_bit p k i
  cases h : p i
  · rw [h, Bool.and_false] at this
    rw [bitN_false this]; rfl
  · rw [h] at this
    rw [bitN_true (by rw [this]; simp [hi])]; rfl

/-- The places where half of a number is odd. -/
def aw (l : List Int) : Nat := wordP (fun i => decide (l.getD i 0 / 2 % 2 = 1)) 24
theorem aw_lt (l : List Int) : aw l < 16777216 := wordP_24 _
theorem aw_bit (l : List Int) (i : Nat) (hi : i < 24) : (aw l).testBit i = decide (l.getD i 0 / 2 % 2 = 1) := by
  unfold aw
  rw [wordP_bit]
  simp [hi]

/-- What a vector of the lattice is. -/
def LatP (l : List Int) : Prop := (∀ i, i < 24 → l.getD i 0 % 2 = l.getD 0 0 % 2) ∧ codeB (aw l) = true ∧ sumTo l 24 % 8 = 4 * (l.getD 0 0 % 2)

theorem rw4_aw {l : List Int} (hp : ∀ i, i < 24 → l.getD i 0 % 2 = l.getD 0 0 % 2) {r : Nat} (hr : (r : Int) = 2 + l.getD 0 0 % 2) : rw4 l r 24 = aw l := by
  rw [rw4_word]
  apply word_ext (wordP_24 _) (aw_lt l)
  intro i hi
  rw [aw_bit l i hi, wordP_bit]
  have := hp i hi
  simp only [hi, decide_true, Bool.true_and]
  rw [decide_eq_decide]
  omega
theorem rw4_rest {l : List Int} (hp : ∀ i, i < 24 → l.getD i 0 % 2 = l.getD 0 0 % 2) {r : Nat} (hr : (r : Int) = l.getD 0 0 % 2) : rw4 l r 24 = 16777215 ^^^ aw l := by
  rw [rw4_word]
  apply word_ext (wordP_24 _) (Nat.xor_lt_two_pow (n := 24) (by omega) (aw_lt l))
  intro i hi
  rw [Nat.testBit_xor, aw_bit l i hi, wordP_bit]
  have := hp i hi
  have hf : (16777215 : Nat).testBit i = true := by
    rw [show (16777215 : Nat) = 2 ^ 24 - 1 by decide, Nat.testBit_two_pow_sub_one]
    simp [hi]
  rw [hf]
  simp only [hi, decide_true, Bool.true_and, Bool.true_bne]
  by_cases h : l.getD i 0 / 2 % 2 = 1
  · simp only [h, decide_true, Bool.not_true, decide_eq_false_iff_not]
    omega
  · simp only [h, decide_false, Bool.not_false, decide_eq_true_eq]
    omega
theorem rw4_none {l : List Int} (hp : ∀ i, i < 24 → l.getD i 0 % 2 = l.getD 0 0 % 2) {r : Nat} (hr : (r : Int) % 2 ≠ l.getD 0 0 % 2) : rw4 l r 24 = 0 := by
  rw [rw4_word]
  apply word_ext (wordP_24 _) (by omega)
  intro i hi
  rw [wordP_bit, Nat.zero_testBit]
  have := hp i hi
  simp only [hi, decide_true, Bool.true_and, decide_eq_false_iff_not]
  omega

theorem latB_iff (l : List Int) : latB l = true ↔ LatP l := by
  unfold latB LatP
  rw [Bool.and_eq_true, Bool.and_eq_true, List.all_eq_true, List.all_eq_true, beq_iff_eq]
  constructor
  · rintro ⟨⟨h1, h2⟩, h3⟩
    have hp : ∀ i, i < 24 → l.getD i 0 % 2 = l.getD 0 0 % 2 := by
      intro i hi
      have := h1 i (by simpa using hi)
      unfold parL at this
      rw [beq_iff_eq] at this
      exact this
    refine ⟨hp, ?_, h3⟩
    obtain ⟨r, hr⟩ := Int.eq_ofNat_of_zero_le (show 0 ≤ 2 + l.getD 0 0 % 2 by omega)
    rw [← rw4_aw hp (r := r) hr.symm]
    exact h2 r (by simp; omega)
  · rintro ⟨hp, hc, h3⟩
    refine ⟨⟨?_, ?_⟩, h3⟩
    · intro i hi
      unfold parL
      rw [beq_iff_eq]
      exact hp i (by simpa using hi)
    · intro r hr
      have hr4 : r < 4 := by simpa using hr
      by_cases h1 : (r : Int) = 2 + l.getD 0 0 % 2
      · rw [rw4_aw hp h1]; exact hc
      · by_cases h2 : (r : Int) = l.getD 0 0 % 2
        · rw [rw4_rest hp h2]
          exact codeB_xor (by omega) (aw_lt l) codeB_full hc
        · rw [rw4_none hp (by omega)]
          exact codeB_zero

/-- Sums with a + b at each place. -/
theorem sumTo_add {s l m : List Int} (h : ∀ i, i < 24 → s.getD i 0 = l.getD i 0 + m.getD i 0) (k : Nat) (hk : k ≤ 24) : sumTo s k = sumTo l k + sumTo m k := by
  induction k with
  | zero => rfl
  | succ k ih =>
    simp only [sumTo]
    rw [ih (by omega), h k (by omega)]
    omega
/-- The lattice is closed. -/
theorem latP_add {s l m : List Int} (h : ∀ i, i < 24 → s.getD i 0 = l.getD i 0 + m.getD i 0) (h1 : LatP l) (h2 : LatP m) : LatP s := by
  obtain ⟨p1, c1, s1⟩ := h1
  obtain ⟨p2, c2, s2⟩ := h2
  have h0 := h 0 (by omega)
  refine ⟨?_, ?_, ?_⟩
  · intro i hi
    have a1 := p1 i hi
    have a2 := p2 i hi
    rw [h i hi, h0]
    omega
  · by_cases hc : l.getD 0 0 % 2 = 1 ∧ m.getD 0 0 % 2 = 1
    · have e : aw s = 16777215 ^^^ (aw l ^^^ aw m) := by
        apply word_ext (aw_lt s) (Nat.xor_lt_two_pow (n := 24) (by omega) (Nat.xor_lt_two_pow (n := 24) (aw_lt l) (aw_lt m)))
        intro i hi
        have a1 := p1 i hi
        have a2 := p2 i hi
        have hf : (16777215 : Nat).testBit i = true := by
          rw [show (16777215 : Nat) = 2 ^ 24 - 1 by decide, Nat.testBit_two_pow_sub_one]
          simp [hi]
        rw [Nat.testBit_xor, Nat.testBit_xor, hf, aw_bit s i hi, aw_bit l i hi, aw_bit m i hi, h i hi]
        generalize l.getD i 0 = x at *
        generalize m.getD i 0 = y at *
        by_cases x1 : x / 2 % 2 = 1 <;> by_cases y1 : y / 2 % 2 = 1 <;> simp [x1, y1] <;> omega
      rw [e]
      exact codeB_xor (by omega) (Nat.xor_lt_two_pow (n := 24) (aw_lt l) (aw_lt m)) codeB_full (codeB_xor (aw_lt l) (aw_lt m) c1 c2)
    · have e : aw s = aw l ^^^ aw m := by
        apply word_ext (aw_lt s) (Nat.xor_lt_two_pow (n := 24) (aw_lt l) (aw_lt m))
        intro i hi
        have a1 := p1 i hi
        have a2 := p2 i hi
        rw [Nat.testBit_xor, aw_bit s i hi, aw_bit l i hi, aw_bit m i hi, h i hi]
        generalize l.getD i 0 = x at *
        generalize m.getD i 0 = y at *
        by_cases x1 : x / 2 % 2 = 1 <;> by_cases y1 : y / 2 % 2 = 1 <;> simp [x1, y1] <;> omega
      rw [e]
      exact codeB_xor (aw_lt l) (aw_lt m) c1 c2
  · rw [sumTo_add h 24 (Nat.le_refl _), h0]
    omega

/-- How often both halves are odd. -/
def bothTo (l m : List Int) : Nat → Int
  | 0 => 0
  | k + 1 => bothTo l m k + l.getD k 0 / 2 % 2 * (m.getD k 0 / 2 % 2)
theorem half_bit (l : List Int) (k : Nat) (hk : k < 24) : ((bitN (aw l) k : Nat) : Int) = l.getD k 0 / 2 % 2 := by
  unfold aw
  rw [bitN_word _ _ _ hk]
  generalize l.getD k 0 = x
  by_cases h : x / 2 % 2 = 1
  · rw [h]; rfl
  · rw [if_neg (by rw [decide_eq_true_eq]; exact h)]
    omega
theorem bitN_and (x y k : Nat) : bitN (x &&& y) k = bitN x k * bitN y k := by
  have h : (x &&& y).testBit k = (x.testBit k && y.testBit k) := Nat.testBit_and x y k
  cases hx : x.testBit k <;> cases hy : y.testBit k
  all_goals
    rw [hx, hy] at h
    first
      | rw [bitN_true h]
      | rw [bitN_false h]
    first
      | rw [bitN_true hx]
      | rw [bitN_false hx]
    first
      | rw [bitN_true hy]
      | rw [bitN_false hy]
theorem both_wt (l m : List Int) (k : Nat) (hk : k ≤ 24) : bothTo l m k = (wtTo (aw l &&& aw m) k : Nat) := by
  induction k with
  | zero => rfl
  | succ k ih =>
    have e : wtTo (aw l &&& aw m) (k + 1) = wtTo (aw l &&& aw m) k + bitN (aw l &&& aw m) k := rfl
    rw [e, bitN_and]
    simp only [bothTo]
    rw [ih (by omega), ← half_bit l k (by omega), ← half_bit m k (by omega)]
    push_cast
    rfl
theorem both_self (l : List Int) (k : Nat) (hk : k ≤ 24) : bothTo l l k = (wtTo (aw l) k : Nat) := by
  rw [both_wt l l k hk, Nat.and_self]

/-- Sums by halves. -/
def quTo (l : List Int) : Nat → Int
  | 0 => 0
  | k + 1 => quTo l k + l.getD k 0 / 4
theorem sum_split {l : List Int} (hp : ∀ i, i < 24 → l.getD i 0 % 2 = l.getD 0 0 % 2) (k : Nat) (hk : k ≤ 24) :
    sumTo l k = (l.getD 0 0 % 2) * k + 2 * bothTo l l k + 4 * quTo l k := by
  induction k with
  | zero => simp [sumTo, bothTo, quTo]
  | succ k ih =>
    have a := hp k (by omega)
    have ih := ih (by omega)
    simp only [sumTo, bothTo, quTo]
    rw [ih]
    have h2 : l.getD k 0 / 2 % 2 = 0 ∨ l.getD k 0 / 2 % 2 = 1 := by omega
    have h3 : l.getD 0 0 % 2 = 0 ∨ l.getD 0 0 % 2 = 1 := by omega
    generalize bothTo l l k = B at *
    generalize quTo l k = Q at *
    generalize l.getD k 0 = x at *
    generalize l.getD 0 0 % 2 = o at *
    rcases h3 with rfl | rfl <;> rcases h2 with h2 | h2 <;> rw [h2] <;> omega
theorem prod_split (x y : Int) : ∃ R, x * y = (x % 2) * (y % 2) + 2 * (x % 2) * (y / 2 % 2) + 2 * (y % 2) * (x / 2 % 2) + 4 * (x % 2) * (y / 4) + 4 * (y % 2) * (x / 4) + 4 * ((x / 2 % 2) * (y / 2 % 2)) + 8 * R := by
  refine ⟨(x / 2 % 2) * (y / 4) + (y / 2 % 2) * (x / 4) + 2 * (x / 4) * (y / 4), ?_⟩
  have ex : x = x % 2 + 2 * (x / 2 % 2) + 4 * (x / 4) := by omega
  have ey : y = y % 2 + 2 * (y / 2 % 2) + 4 * (y / 4) := by omega
  generalize x % 2 = a at *
  generalize x / 2 % 2 = b at *
  generalize x / 4 = c at *
  generalize y % 2 = a' at *
  generalize y / 2 % 2 = b' at *
  generalize y / 4 = c' at *
  subst ex
  subst ey
  grind
theorem dot_split {l m : List Int} (hp : ∀ i, i < 24 → l.getD i 0 % 2 = l.getD 0 0 % 2) (hq : ∀ i, i < 24 → m.getD i 0 % 2 = m.getD 0 0 % 2) (k : Nat) (hk : k ≤ 24) :
    ∃ R, dotTo l m k = (l.getD 0 0 % 2) * (m.getD 0 0 % 2) * k + 2 * (l.getD 0 0 % 2) * bothTo m m k + 2 * (m.getD 0 0 % 2) * bothTo l l k
      + 4 * (l.getD 0 0 % 2) * quTo m k + 4 * (m.getD 0 0 % 2) * quTo l k + 4 * bothTo l m k + 8 * R := by
  induction k with
  | zero => exact ⟨0, by simp [dotTo, bothTo, quTo]⟩
  | succ k ih =>
    obtain ⟨R, ih⟩ := ih (by omega)
    obtain ⟨S, hS⟩ := prod_split (l.getD k 0) (m.getD k 0)
    refine ⟨R + S, ?_⟩
    simp only [dotTo, bothTo, quTo]
    rw [ih, hS, hp k (by omega), hq k (by omega)]
    have hx : l.getD k 0 / 2 % 2 * (l.getD k 0 / 2 % 2) = l.getD k 0 / 2 % 2 := by
      have : l.getD k 0 / 2 % 2 = 0 ∨ l.getD k 0 / 2 % 2 = 1 := by omega
      rcases this with h | h <;> rw [h] <;> rfl
    have hy : m.getD k 0 / 2 % 2 * (m.getD k 0 / 2 % 2) = m.getD k 0 / 2 % 2 := by
      have : m.getD k 0 / 2 % 2 = 0 ∨ m.getD k 0 / 2 % 2 = 1 := by omega
      rcases this with h | h <;> rw [h] <;> rfl
    rw [hx, hy]
    push_cast
    grind
/-- Inner products in the lattice are multiples of 8. -/
theorem latP_dot {l m : List Int} (h1 : LatP l) (h2 : LatP m) : dotTo l m 24 % 8 = 0 := by
  obtain ⟨p1, c1, s1⟩ := h1
  obtain ⟨p2, c2, s2⟩ := h2
  obtain ⟨R, hR⟩ := dot_split p1 p2 24 (Nat.le_refl _)
  have e1 := sum_split p1 24 (Nat.le_refl _)
  have e2 := sum_split p2 24 (Nat.le_refl _)
  have w1 := codeB_wt (aw_lt l) c1
  have w2 := codeB_wt (aw_lt m) c2
  have w3 := codeB_pr (aw_lt l) (aw_lt m) c1 c2
  have b1 := both_self l 24 (Nat.le_refl _)
  have b2 := both_self m 24 (Nat.le_refl _)
  have b3 := both_wt l m 24 (Nat.le_refl _)
  change bothTo l l 24 = ((wt (aw l) : Nat) : Int) at b1
  change bothTo m m 24 = ((wt (aw m) : Nat) : Int) at b2
  change bothTo l m 24 = ((wt (aw l &&& aw m) : Nat) : Int) at b3
  unfold pr at w3
  have h3 : l.getD 0 0 % 2 = 0 ∨ l.getD 0 0 % 2 = 1 := by omega
  have h4 : m.getD 0 0 % 2 = 0 ∨ m.getD 0 0 % 2 = 1 := by omega
  rw [hR]
  rw [e1] at s1
  rw [e2] at s2
  rw [b1] at s1 ⊢
  rw [b2] at s2 ⊢
  rw [b3]
  generalize l.getD 0 0 % 2 = o at *
  generalize m.getD 0 0 % 2 = p at *
  rcases h3 with rfl | rfl <;> rcases h4 with rfl | rfl <;> omega

/-- Squares. -/
theorem sq_even (c : Int) : c * c % 2 = c % 2 := by
  rw [Int.mul_emod]
  have : c % 2 = 0 ∨ c % 2 = 1 := by omega
  rcases this with h | h <;> rw [h] <;> rfl
theorem sq_next (c : Int) : 0 ≤ c * c + c := by
  by_cases h : 0 ≤ c
  · have := Int.mul_nonneg h h
    omega
  · have h1 : 0 ≤ -c := by omega
    have h2 : 0 ≤ -c - 1 := by omega
    have := Int.mul_nonneg h1 h2
    grind
theorem sq_pos (c : Int) : 0 ≤ c * c := by
  by_cases h : 0 ≤ c
  · exact Int.mul_nonneg h h
  · have h1 : 0 ≤ -c := by omega
    have := Int.mul_nonneg h1 h1
    grind
theorem sq_split (x : Int) (o : Int) (ho : x % 2 = o) : ∃ R, x * x = o + 4 * (x / 2 % 2) + 4 * o * (x / 2 % 2) + 8 * o * (x / 4) + 16 * R ∧ 0 ≤ R ∧ (x / 2 % 2 = 0 → R % 2 = x / 4 % 2) := by
  have ex : x = x % 2 + 2 * (x / 2 % 2) + 4 * (x / 4) := by omega
  have h2 : x / 2 % 2 = 0 ∨ x / 2 % 2 = 1 := by omega
  have h3 : x % 2 = 0 ∨ x % 2 = 1 := by omega
  subst ho
  generalize x % 2 = a at *
  generalize x / 2 % 2 = b at *
  generalize x / 4 = c at *
  subst ex
  have q1 := sq_pos c
  have q2 := sq_next c
  have q3 := sq_even c
  rcases h3 with rfl | rfl <;> rcases h2 with rfl | rfl
  · exact ⟨c * c, by grind, q1, fun _ => q3⟩
  · exact ⟨c * c + c, by grind, q2, fun h => by omega⟩
  · exact ⟨c * c, by grind, q1, fun _ => q3⟩
  · exact ⟨c * c + c, by grind, q2, fun h => by omega⟩
theorem both_nonneg (l : List Int) (k : Nat) (hk : k ≤ 24) : 0 ≤ bothTo l l k := by
  rw [both_self l k hk]
  exact Int.natCast_nonneg _
theorem norm_split {l : List Int} (hp : ∀ i, i < 24 → l.getD i 0 % 2 = l.getD 0 0 % 2) (k : Nat) (hk : k ≤ 24) :
    ∃ R, dotTo l l k = (l.getD 0 0 % 2) * k + 4 * bothTo l l k + 4 * (l.getD 0 0 % 2) * bothTo l l k + 8 * (l.getD 0 0 % 2) * quTo l k + 16 * R
      ∧ 0 ≤ R ∧ (bothTo l l k = 0 → R % 2 = quTo l k % 2) := by
  induction k with
  | zero => exact ⟨0, by simp [dotTo, bothTo, quTo], by omega, fun _ => rfl⟩
  | succ k ih =>
    obtain ⟨R, ih, hR0, hR2⟩ := ih (by omega)
    obtain ⟨S, hS, hS0, hS2⟩ := sq_split (l.getD k 0) _ (hp k (by omega))
    have hn := both_nonneg l k (by omega)
    have hb : l.getD k 0 / 2 % 2 * (l.getD k 0 / 2 % 2) = l.getD k 0 / 2 % 2 := by
      have : l.getD k 0 / 2 % 2 = 0 ∨ l.getD k 0 / 2 % 2 = 1 := by omega
      rcases this with h | h <;> rw [h] <;> rfl
    refine ⟨R + S, ?_, by omega, ?_⟩
    · simp only [dotTo, bothTo, quTo]
      rw [ih, hS, hb]
      push_cast
      grind
    · simp only [bothTo, quTo]
      rw [hb]
      intro h
      have h1 : bothTo l l k = 0 := by omega
      have h2 : l.getD k 0 / 2 % 2 = 0 := by omega
      have := hR2 h1
      have := hS2 h2
      omega
theorem norm_odd {l : List Int} (hp : ∀ i, i < 24 → l.getD i 0 % 2 = 1) (k : Nat) (hk : k ≤ 24) : (k : Int) ≤ dotTo l l k := by
  induction k with
  | zero => simp [dotTo]
  | succ k ih =>
    have ih := ih (by omega)
    have h := hp k (by omega)
    simp only [dotTo]
    have h1 : 1 ≤ l.getD k 0 * l.getD k 0 := by
      generalize l.getD k 0 = x at *
      have h2 := sq_pos x
      have h3 := sq_even x
      omega
    push_cast
    omega
/-- Squares of the lattice. -/
theorem latP_norm {l : List Int} (h : LatP l) : dotTo l l 24 % 16 = 0 ∧ dotTo l l 24 ≠ 16 := by
  obtain ⟨p1, c1, s1⟩ := h
  obtain ⟨R, hR, hR0, hR2⟩ := norm_split p1 24 (Nat.le_refl _)
  have e1 := sum_split p1 24 (Nat.le_refl _)
  have w1 := codeB_wt (aw_lt l) c1
  have b1 := both_self l 24 (Nat.le_refl _)
  change bothTo l l 24 = ((wt (aw l) : Nat) : Int) at b1
  have h3 : l.getD 0 0 % 2 = 0 ∨ l.getD 0 0 % 2 = 1 := by omega
  have ho : l.getD 0 0 % 2 = 1 → (24 : Int) ≤ dotTo l l 24 := fun h => norm_odd (fun i hi => by rw [p1 i hi, h]) 24 (Nat.le_refl _)
  rw [hR] at ho ⊢
  rw [e1] at s1
  rw [b1] at s1 hR2 ho ⊢
  generalize l.getD 0 0 % 2 = o at *
  rcases h3 with rfl | rfl
  · constructor <;> omega
  · have := ho rfl
    constructor <;> omega

theorem getD_elem (l : List Int) (i : Nat) (h : i < l.length) : l.getD i 0 = l[i] := by simp [List.getD, h]
/-- Signs on a word of the code. -/
theorem flipV_flipV (l : List Int) (w : Nat) (hl : l.length = 24) : flipV (flipV l w) w = l := by
  apply List.ext_getElem (by rw [flipV_length, hl])
  intro i h1 h2
  have hi : i < 24 := by omega
  have e1 := flipV_get (flipV l w) w i hi
  rw [flipV_get l w i hi] at e1
  have e3 : (flipV (flipV l w) w).getD i 0 = (flipV (flipV l w) w)[i] := getD_elem _ i h1
  have e4 : l.getD i 0 = l[i] := getD_elem _ i h2
  refine e3.symm.trans (Eq.trans ?_ e4)
  rw [e1]
  split
  · exact Int.neg_neg _
  · rfl
theorem dot_flip (l : List Int) (w : Nat) (k : Nat) (hk : k ≤ 24) : dotTo (flipV l w) (flipV l w) k = dotTo l l k := by
  induction k with
  | zero => rfl
  | succ k ih =>
    simp only [dotTo]
    rw [ih (by omega), flipV_get l w k (by omega)]
    split
    · rw [Int.neg_mul_neg]
    · rfl
theorem flip_sum {l : List Int} (hp : ∀ i, i < 24 → l.getD i 0 % 2 = l.getD 0 0 % 2) (w : Nat) (k : Nat) (hk : k ≤ 24) :
    ∃ R, sumTo (flipV l w) k = sumTo l k - 2 * (l.getD 0 0 % 2) * (wtTo w k : Nat) - 4 * (wtTo (w &&& aw l) k : Nat) - 8 * R := by
  induction k with
  | zero => exact ⟨0, by simp [sumTo, wtTo]⟩
  | succ k ih =>
    obtain ⟨R, ih⟩ := ih (by omega)
    have e : wtTo (w &&& aw l) (k + 1) = wtTo (w &&& aw l) k + bitN (w &&& aw l) k := rfl
    have e' : wtTo w (k + 1) = wtTo w k + bitN w k := rfl
    have hh := half_bit l k (by omega)
    have ha := hp k (by omega)
    rw [e, e', bitN_and]
    simp only [sumTo]
    rw [ih, flipV_get l w k (by omega)]
    cases hb : w.testBit k
    · rw [bitN_false hb]
      refine ⟨R, ?_⟩
      rw [if_neg (by simp), Nat.zero_mul, Nat.add_zero, Nat.add_zero]
      omega
    · rw [bitN_true hb, if_pos rfl, Nat.one_mul]
      refine ⟨R + l.getD k 0 / 4, ?_⟩
      push_cast
      rw [hh]
      generalize l.getD k 0 = x at *
      have h3 : l.getD 0 0 % 2 = 0 ∨ l.getD 0 0 % 2 = 1 := by omega
      generalize l.getD 0 0 % 2 = o at *
      rcases h3 with rfl | rfl <;> omega
theorem latP_flip {l : List Int} {w : Nat} (hw : w < 16777216) (hc : codeB w = true) (h : LatP l) : LatP (flipV l w) := by
  obtain ⟨p1, c1, s1⟩ := h
  have g0 := flipV_get l w 0 (by omega)
  have par : ∀ i, i < 24 → (flipV l w).getD i 0 % 2 = l.getD i 0 % 2 := by
    intro i hi
    rw [flipV_get l w i hi]
    split
    · omega
    · rfl
  have h3 : l.getD 0 0 % 2 = 0 ∨ l.getD 0 0 % 2 = 1 := by omega
  refine ⟨?_, ?_, ?_⟩
  · intro i hi
    rw [par i hi, par 0 (by omega)]
    exact p1 i hi
  · rcases h3 with h3 | h3
    · have e : aw (flipV l w) = aw l := by
        apply word_ext (aw_lt _) (aw_lt l)
        intro i hi
        have a1 := p1 i hi
        rw [aw_bit _ i hi, aw_bit l i hi, flipV_get l w i hi]
        split
        · rw [decide_eq_decide]; omega
        · rfl
      rw [e]
      exact c1
    · have e : aw (flipV l w) = aw l ^^^ w := by
        apply word_ext (aw_lt _) (Nat.xor_lt_two_pow (n := 24) (aw_lt l) hw)
        intro i hi
        have a1 := p1 i hi
        rw [Nat.testBit_xor, aw_bit _ i hi, aw_bit l i hi, flipV_get l w i hi]
        cases hb : w.testBit i
        · simp
        · simp only [if_pos, Bool.bne_true]
          rw [← decide_not, decide_eq_decide]
          omega
      rw [e]
      exact codeB_xor (aw_lt l) hw c1 hc
  · obtain ⟨R, hR⟩ := flip_sum p1 w 24 (Nat.le_refl _)
    have w1 := codeB_wt hw hc
    have w3 := codeB_pr hw (aw_lt l) hc c1
    unfold pr at w3
    unfold wt at w1 w3
    rw [hR, par 0 (by omega)]
    generalize wtTo w 24 = a at *
    generalize wtTo (w &&& aw l) 24 = b at *
    rcases h3 with h3 | h3 <;> rw [h3] at s1 ⊢ <;> omega
theorem latB_flip {l : List Int} {w : Nat} (hl : l.length = 24) (hw : w < 16777216) (hc : codeB w = true) : latB (flipV l w) = latB l := by
  rw [Bool.eq_iff_iff, latB_iff, latB_iff]
  constructor
  · intro h
    have := latP_flip hw hc h
    rw [flipV_flipV l w hl] at this
    exact this
  · exact latP_flip hw hc

end Go.Proofs.Ythbgmmjgenkjpaa.Res
