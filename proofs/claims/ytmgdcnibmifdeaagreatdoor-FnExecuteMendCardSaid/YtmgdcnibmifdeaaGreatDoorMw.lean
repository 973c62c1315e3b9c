/- Plain laws: words moved by a permutation of the places. -/
import Derived.Test.YtmgdcnibmifdeaaGreatDoorPm
import Derived.Test.YtmgdcnibmifdeaaGreatDoorPr
set_option linter.unusedVariables false
namespace Go.Proofs.YtmgdcnibmifdeaaGreatDoor.Res

/-- Where a place goes. -/
def goes (p : List Int) (i : Nat) : Nat := (p.getD i 0).toNat
/-- The word of the places to which those of a list go. -/
def mwL (p : List Int) (ps : List Nat) : Nat := ps.foldl (fun o i => o ||| 2 ^ goes p i) 0
theorem mwL_snoc (p : List Int) (ps : List Nat) (i : Nat) : mwL p (ps ++ [i]) = mwL p ps ||| 2 ^ goes p i := by simp [mwL]
/-- The moved word, by the first k places. -/
def mw (p : List Int) (n : Nat) : Nat → Nat
  | 0 => 0
  | k + 1 => if n.testBit k then mw p n k ||| 2 ^ goes p k else mw p n k
def mvW (p : List Int) (n : Nat) : Nat := mw p n 24
theorem mw_hit {p : List Int} {n k : Nat} (h : n.testBit k = true) : mw p n (k + 1) = mw p n k ||| 2 ^ goes p k := by simp [mw, h]
theorem mw_miss {p : List Int} {n k : Nat} (h : n.testBit k = false) : mw p n (k + 1) = mw p n k := by simp [mw, h]
theorem mwL_to (p : List Int) (n k : Nat) : mwL p (placesTo n k) = mw p n k := by
  induction k with
  | zero => rfl
  | succ k ih =>
    cases h : n.testBit k
    · rw [placesTo_miss h, mw_miss h, ih]
    · rw [placesTo_hit h, mw_hit h, mwL_snoc, ih]
theorem mwL_all (p : List Int) (n : Nat) : mwL p (places n) = mvW p n := mwL_to p n 24
theorem mw_bit (p : List Int) (n k j : Nat) : (mw p n k).testBit j = true ↔ ∃ i, i < k ∧ n.testBit i = true ∧ goes p i = j := by
  induction k with
  | zero => simp [mw]
  | succ k ih =>
    cases h : n.testBit k
    · rw [mw_miss h, ih]
      constructor
      · rintro ⟨i, hi, h1, h2⟩; exact ⟨i, by omega, h1, h2⟩
      · rintro ⟨i, hi, h1, h2⟩
        refine ⟨i, ?_, h1, h2⟩
        by_cases e : i = k
        · subst e; rw [h] at h1; cases h1
        · omega
    · rw [mw_hit h, Nat.testBit_or, Bool.or_eq_true, ih, Nat.testBit_two_pow, decide_eq_true_eq]
      constructor
      · rintro (⟨i, hi, h1, h2⟩ | e)
        · exact ⟨i, by omega, h1, h2⟩
        · exact ⟨k, by omega, h, e⟩
      · rintro ⟨i, hi, h1, h2⟩
        by_cases e : i = k
        · subst e; exact .inr h2
        · exact .inl ⟨i, by omega, h1, h2⟩
theorem goes_lt {p : List Int} {k i : Nat} (h : okTo p k) (hi : i < k) : goes p i < 24 := by
  have := h.1 i hi
  unfold goes
  omega
theorem goes_inj {p : List Int} {k i j : Nat} (h : okTo p k) (hi : i < k) (hj : j < k) (e : goes p i = goes p j) : i = j := by
  have h1 := h.1 i hi
  have h2 := h.1 j hj
  unfold goes at e
  rcases Nat.lt_trichotomy i j with hlt | heq | hgt
  · exact absurd (by omega) (h.2 i j hlt hj)
  · exact heq
  · exact absurd (by omega) (h.2 j i hgt hi)
theorem mwL_lt {p : List Int} (h : okTo p 24) {ps : List Nat} (hp : ∀ i, i ∈ ps → i < 24) : mwL p ps < 2 ^ 24 := by
  have : ∀ (ps : List Nat) (o : Nat), o < 2 ^ 24 → (∀ i, i ∈ ps → i < 24) → ps.foldl (fun o i => o ||| 2 ^ goes p i) o < 2 ^ 24 := by
    intro ps
    induction ps with
    | nil => intro o ho _; exact ho
    | cons i ps ih =>
      intro o ho hi
      exact ih _ (Nat.or_lt_two_pow ho (Nat.pow_lt_pow_right (by omega) (goes_lt h (hi i (by simp))))) (fun j hj => hi j (by simp [hj]))
  exact this ps 0 (by decide) hp
theorem mw_lt {p : List Int} (h : okTo p 24) (n k : Nat) (hk : k ≤ 24) : mw p n k < 2 ^ 24 := by
  induction k with
  | zero => simp [mw]
  | succ k ih =>
    have ih := ih (by omega)
    cases hb : n.testBit k
    · rw [mw_miss hb]; exact ih
    · rw [mw_hit hb]
      exact Nat.or_lt_two_pow ih (Nat.pow_lt_pow_right (by omega) (goes_lt h (by omega)))
theorem mvW_lt {p : List Int} (h : okTo p 24) (n : Nat) : mvW p n < 16777216 := mw_lt h n 24 (Nat.le_refl _)
theorem mw_fresh {p : List Int} (h : okTo p 24) (n : Nat) {k : Nat} (hk : k < 24) : (mw p n k).testBit (goes p k) = false := by
  cases hb : (mw p n k).testBit (goes p k)
  · rfl
  · obtain ⟨i, hi, -, e⟩ := (mw_bit p n k _).1 hb
    have := goes_inj h (by omega) hk e
    omega
/-- The reference's step: it adds the bit, shifted. -/
theorem mw_step {p : List Int} (h : okTo p 24) (n : Nat) {k : Nat} (hk : k < 24) : mw p n (k + 1) = mw p n k + bitN n k * 2 ^ goes p k := by
  cases hb : n.testBit k
  · rw [mw_miss hb, bitN_false hb, Nat.zero_mul, Nat.add_zero]
  · rw [mw_hit hb, bitN_true hb, Nat.one_mul, add_bit (mw_fresh h n hk)]
theorem mvW_goes {p : List Int} (h : okTo p 24) (n : Nat) {i : Nat} (hi : i < 24) : (mvW p n).testBit (goes p i) = n.testBit i := by
  rw [Bool.eq_iff_iff]
  unfold mvW
  rw [mw_bit]
  constructor
  · rintro ⟨j, hj, h1, h2⟩
    rw [← goes_inj h hj hi h2]
    exact h1
  · intro h1
    exact ⟨i, hi, h1, rfl⟩
theorem wt_zero : wt 0 = 0 := by decide +kernel
theorem mw_wt {p : List Int} (h : okTo p 24) (n k : Nat) (hk : k ≤ 24) : wt (mw p n k) = wtTo n k := by
  induction k with
  | zero => exact wt_zero
  | succ k ih =>
    have ih := ih (by omega)
    show _ = wtTo n k + bitN n k
    cases hb : n.testBit k
    · rw [mw_miss hb, bitN_false hb, ih, Nat.add_zero]
    · have hw := wtTo_or (mw_fresh h n (show k < 24 by omega)) 24
      rw [if_pos (goes_lt h (by omega))] at hw
      rw [mw_hit hb, bitN_true hb, ← ih]
      exact hw
/-- Moved words have the same weight. -/
theorem mvW_wt {p : List Int} (h : okTo p 24) (n : Nat) : wt (mvW p n) = wt n := mw_wt h n 24 (Nat.le_refl _)

/-- Every place is reached. -/
theorem goes_onto {p : List Int} (hl : p.length = 24) (h : okTo p 24) {j : Nat} (hj : j < 24) : ∃ i, i < 24 ∧ goes p i = j := by
  have h24 : okTo p p.length := by rw [hl]; exact h
  have hm := mk_full h24
  rw [hl] at hm
  have hm2 : mk p 24 = 16777215 := by
    have : (mk p 24 == 16777215) = true := by rw [hm]; rfl
    rw [beq_iff_eq] at this
    exact this
  have hb : (mk p 24).testBit j = true := by
    rw [hm2, show (16777215 : Nat) = 2 ^ 24 - 1 by decide, Nat.testBit_two_pow_sub_one]
    simp [hj]
  exact (mk_bit p 24 j).1 hb
theorem mvW_xor {p : List Int} (hl : p.length = 24) (h : okTo p 24) (x y : Nat) : mvW p (x ^^^ y) = mvW p x ^^^ mvW p y := by
  apply word_ext (mvW_lt h _) (Nat.xor_lt_two_pow (n := 24) (mvW_lt h x) (mvW_lt h y))
  intro j hj
  obtain ⟨i, hi, rfl⟩ := goes_onto hl h hj
  rw [Nat.testBit_xor, mvW_goes h _ hi, mvW_goes h _ hi, mvW_goes h _ hi, Nat.testBit_xor]

end Go.Proofs.YtmgdcnibmifdeaaGreatDoor.Res
