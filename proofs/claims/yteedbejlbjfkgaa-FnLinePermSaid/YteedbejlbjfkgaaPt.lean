/- Plain laws: permutations one after the other, turned, fixed places. -/
import Derived.Test.YteedbejlbjfkgaaMw
set_option linter.unusedVariables false
namespace Go.Proofs.Yteedbejlbjfkgaa.Res

theorem permOk_iff (p : List Int) : permOk p = true ↔ p.length = 24 ∧ okTo p 24 := by
  unfold permOk
  rw [Bool.and_eq_true, beq_iff_eq]
  constructor
  · rintro ⟨h1, h2⟩
    refine ⟨h1, ?_⟩
    have := (okTo_iff p).2 h2
    rw [h1] at this
    exact this
  · rintro ⟨h1, h2⟩
    refine ⟨h1, (okTo_iff p).1 ?_⟩
    rw [h1]
    exact h2
theorem okTo_of {p : List Int} (f : Nat → Nat) (hf : ∀ i, i < 24 → p.getD i 0 = ((f i : Nat) : Int) ∧ f i < 24) (hi : ∀ i j, i < j → j < 24 → f i ≠ f j) : okTo p 24 := by
  refine ⟨fun i h => ?_, fun i j h1 h2 => ?_⟩
  · have := hf i h
    omega
  · have h3 := hf i (by omega)
    have h4 := hf j h2
    have := hi i j h1 h2
    omega
theorem goes_get {p : List Int} (h : okTo p 24) {i : Nat} (hi : i < 24) : p.getD i 0 = ((goes p i : Nat) : Int) := by
  have := h.1 i hi
  unfold goes
  omega

/-- One after the other, the first k places. -/
def tmTo (p q : List Int) (k : Nat) : List Int := (List.range k).map fun i => q.getD (goes p i) 0
def tmL (p q : List Int) : List Int := tmTo p q 24
theorem tmTo_succ (p q : List Int) (k : Nat) : tmTo p q (k + 1) = tmTo p q k ++ [q.getD (goes p k) 0] := by simp [tmTo, List.range_succ]
theorem tmTo_length (p q : List Int) (k : Nat) : (tmTo p q k).length = k := by simp [tmTo]
theorem tmL_get (p q : List Int) (i : Nat) (hi : i < 24) : (tmL p q).getD i 0 = q.getD (goes p i) 0 := by
  unfold tmL tmTo
  simp [List.getD, hi]
theorem tmL_goes (p q : List Int) {i : Nat} (hi : i < 24) : goes (tmL p q) i = goes q (goes p i) := by
  unfold goes
  rw [tmL_get p q i hi]
  rfl
theorem tmL_ok {p q : List Int} (hp : okTo p 24) (hq : okTo q 24) : okTo (tmL p q) 24 := by
  refine okTo_of (fun i => goes q (goes p i)) (fun i hi => ⟨?_, goes_lt hq (goes_lt hp hi)⟩) (fun i j hij hj e => ?_)
  · rw [tmL_get p q i hi]
    exact goes_get hq (goes_lt hp hi)
  · have h1 := goes_inj hq (goes_lt hp (show i < 24 by omega)) (goes_lt hp hj) e
    have h2 := goes_inj hp (show i < 24 by omega) hj h1
    omega

/-- Turned, the first k places. -/
def tnTo (p : List Int) : Nat → List Int
  | 0 => List.replicate 24 0
  | k + 1 => (tnTo p k).set (goes p k) (k : Int)
def tnL (p : List Int) : List Int := tnTo p 24
theorem tnTo_length (p : List Int) (k : Nat) : (tnTo p k).length = 24 := by
  induction k with
  | zero => simp [tnTo]
  | succ k ih => simp [tnTo, ih]
theorem tnTo_get {p : List Int} (h : okTo p 24) (k : Nat) (hk : k ≤ 24) (i : Nat) (hi : i < k) : (tnTo p k).getD (goes p i) 0 = (i : Int) := by
  induction k with
  | zero => omega
  | succ k ih =>
    have hl := tnTo_length p k
    have hg := goes_lt h (show i < 24 by omega)
    show ((tnTo p k).set (goes p k) (k : Int)).getD (goes p i) 0 = _
    simp only [List.getD, List.getElem?_set]
    by_cases e : goes p k = goes p i
    · have := goes_inj h (show k < 24 by omega) (show i < 24 by omega) e
      subst this
      simp [hl, hg]
    · rw [if_neg e]
      have hik : i ≠ k := fun e' => e (by rw [e'])
      exact ih (by omega) (by omega)
theorem tnL_goes {p : List Int} (h : okTo p 24) {i : Nat} (hi : i < 24) : goes (tnL p) (goes p i) = i := by
  have := tnTo_get h 24 (Nat.le_refl _) i hi
  unfold tnL
  show ((tnTo p 24).getD (goes p i) 0).toNat = i
  rw [this]
  omega
theorem tnL_ok {p : List Int} (hl : p.length = 24) (h : okTo p 24) : okTo (tnL p) 24 := by
  have key : ∀ j, j < 24 → ∃ i, i < 24 ∧ goes p i = j ∧ (tnL p).getD j 0 = (i : Int) := fun j hj => by
    obtain ⟨i, hi, e⟩ := goes_onto hl h hj
    refine ⟨i, hi, e, ?_⟩
    rw [← e]
    exact tnTo_get h 24 (Nat.le_refl _) i hi
  refine ⟨fun j hj => ?_, fun j j' h1 h2 e => ?_⟩
  · obtain ⟨i, hi, -, e⟩ := key j hj
    omega
  · obtain ⟨i, hi, g, e1⟩ := key j (by omega)
    obtain ⟨i', hi', g', e2⟩ := key j' h2
    have : i = i' := by omega
    subst this
    omega
theorem goes_tnL {p : List Int} (hl : p.length = 24) (h : okTo p 24) {j : Nat} (hj : j < 24) : goes p (goes (tnL p) j) = j := by
  obtain ⟨i, hi, rfl⟩ := goes_onto hl h hj
  rw [tnL_goes h hi]

/-- Fixed places below k. -/
def fxTo (p : List Int) : Nat → Nat
  | 0 => 0
  | k + 1 => if goes p k = k then fxTo p k ||| 2 ^ k else fxTo p k
theorem fxTo_hit {p : List Int} {k : Nat} (h : goes p k = k) : fxTo p (k + 1) = fxTo p k ||| 2 ^ k := by simp [fxTo, h]
theorem fxTo_miss {p : List Int} {k : Nat} (h : goes p k ≠ k) : fxTo p (k + 1) = fxTo p k := by simp [fxTo, h]
theorem fxTo_bit (p : List Int) (k i : Nat) : (fxTo p k).testBit i = (decide (i < k) && decide (goes p i = i)) := by
  induction k with
  | zero => simp [fxTo]
  | succ k ih =>
    by_cases h : goes p k = k
    · rw [fxTo_hit h, Nat.testBit_or, ih, Nat.testBit_two_pow]
      by_cases hik : i = k
      · subst hik; simp [h]
      · by_cases h3 : i < k
        · simp [h3, show i < k + 1 by omega, show ¬ k = i by omega]
        · simp [h3, show ¬ i < k + 1 by omega, show ¬ k = i by omega]
    · rw [fxTo_miss h, ih]
      by_cases hik : i = k
      · subst hik; simp [h]
      · by_cases h3 : i < k
        · simp [h3, show i < k + 1 by omega]
        · simp [h3, show ¬ i < k + 1 by omega]
theorem fxTo_lt (p : List Int) (k : Nat) : fxTo p k < 2 ^ k := by
  induction k with
  | zero => simp [fxTo]
  | succ k ih =>
    have h1 : fxTo p k < 2 ^ (k + 1) := Nat.lt_trans ih (Nat.pow_lt_pow_right (by omega) (by omega))
    simp only [fxTo]
    split
    · exact Nat.or_lt_two_pow h1 (Nat.pow_lt_pow_right (by omega) (by omega))
    · exact h1
def fxW (p : List Int) : Nat := fxTo p 24
theorem full_bit {i : Nat} (hi : i < 24) : (16777215 : Nat).testBit i = true := by
  rw [show (16777215 : Nat) = 2 ^ 24 - 1 by decide, Nat.testBit_two_pow_sub_one]
  simp [hi]
/-- A permutation, then turned: every place stays. -/
theorem fixed_back {p : List Int} (h : okTo p 24) : fxW (tmL p (tnL p)) = 16777215 := by
  apply word_ext (fxTo_lt _ 24) (by omega)
  intro i hi
  rw [full_bit hi]
  rw [fxTo_bit, tmL_goes _ _ hi, tnL_goes h hi]
  simp [hi]
theorem mvW_full {p : List Int} (hl : p.length = 24) (h : okTo p 24) : mvW p 16777215 = 16777215 := by
  apply word_ext (mvW_lt h _) (by omega)
  intro j hj
  obtain ⟨i, hi, rfl⟩ := goes_onto hl h hj
  rw [mvW_goes h _ hi, full_bit hi, full_bit (goes_lt h hi)]
/-- Words are moved one after the other. -/
theorem mvW_tm {p q : List Int} (hlp : p.length = 24) (hp : okTo p 24) (hlq : q.length = 24) (hq : okTo q 24) (n : Nat) : mvW (tmL p q) n = mvW q (mvW p n) := by
  apply word_ext (mvW_lt (tmL_ok hp hq) _) (mvW_lt hq _)
  intro j hj
  obtain ⟨i', hi', rfl⟩ := goes_onto hlq hq hj
  obtain ⟨i, hi, rfl⟩ := goes_onto hlp hp hi'
  rw [mvW_goes hq _ (goes_lt hp hi), mvW_goes hp _ hi, ← tmL_goes p q hi, mvW_goes (tmL_ok hp hq) _ hi]
/-- Moved back. -/
theorem mvW_tn {p : List Int} (hl : p.length = 24) (h : okTo p 24) {n : Nat} (hn : n < 16777216) : mvW (tnL p) (mvW p n) = n := by
  have ht := tnL_ok hl h
  apply word_ext (mvW_lt ht _) hn
  intro j hj
  have h1 := mvW_goes ht (mvW p n) (goes_lt h hj)
  rw [tnL_goes h hj, mvW_goes h n hj] at h1
  exact h1

end Go.Proofs.Yteedbejlbjfkgaa.Res
