/- Plain laws: words read from texts. -/
import Derived.Test.YtmgdcnibmifdeaaGreatDoorTxt
import Derived.Test.YtmgdcnibmifdeaaGreatDoorMw
set_option linter.unusedVariables false
namespace Go.Proofs.YtmgdcnibmifdeaaGreatDoor.Res

theorem wText_range (w : Nat) : wText w = (List.range 27).map fun i => if i % 7 = 6 then 47 else chB (w.testBit (4 * (i % 7) + i / 7)) := by
  rw [wText_eq]
  simp [rowTo, List.range_succ]
theorem wText_get (w i : Nat) (hi : i < 27) : (wText w).getD i 0 = if i % 7 = 6 then 47 else chB (w.testBit (4 * (i % 7) + i / 7)) := by
  rw [wText_range]
  simp [List.getD, hi]

/-- A row of a text, read from its columns. -/
def rdRow (acc : Nat) (row : List UInt8) (r : Nat) : Nat → Nat
  | 0 => acc
  | k + 1 => if row.getD k 0 = 120 ∧ r < 4 ∧ k < 6 then rdRow acc row r k ||| 2 ^ (4 * k + r) else rdRow acc row r k
theorem rdRow_hit {acc : Nat} {row : List UInt8} {r k : Nat} (h : row.getD k 0 = 120 ∧ r < 4 ∧ k < 6) : rdRow acc row r (k + 1) = rdRow acc row r k ||| 2 ^ (4 * k + r) := by
  show (if _ then _ else _) = _; rw [if_pos h]
theorem rdRow_miss {acc : Nat} {row : List UInt8} {r k : Nat} (h : ¬ (row.getD k 0 = 120 ∧ r < 4 ∧ k < 6)) : rdRow acc row r (k + 1) = rdRow acc row r k := by
  show (if _ then _ else _) = _; rw [if_neg h]
theorem rdRow_lt {acc : Nat} (ha : acc < 2 ^ 24) (row : List UInt8) (r k : Nat) : rdRow acc row r k < 2 ^ 24 := by
  induction k with
  | zero => exact ha
  | succ k ih =>
    by_cases h : row.getD k 0 = 120 ∧ r < 4 ∧ k < 6
    · rw [rdRow_hit h]
      exact Nat.or_lt_two_pow ih (Nat.pow_lt_pow_right (by omega) (by omega))
    · rw [rdRow_miss h]; exact ih
theorem rdRow_bit (acc : Nat) (row : List UInt8) (r k i : Nat) : (rdRow acc row r k).testBit i = true ↔ acc.testBit i = true ∨ ∃ c, c < k ∧ (row.getD c 0 = 120 ∧ r < 4 ∧ c < 6) ∧ 4 * c + r = i := by
  induction k with
  | zero =>
    constructor
    · intro h; exact .inl h
    · rintro (h | ⟨c, hc, -⟩)
      · exact h
      · omega
  | succ k ih =>
    by_cases h : row.getD k 0 = 120 ∧ r < 4 ∧ k < 6
    · rw [rdRow_hit h, Nat.testBit_or, Bool.or_eq_true, ih, Nat.testBit_two_pow, decide_eq_true_eq]
      constructor
      · rintro ((h1 | ⟨c, hc, h2, h3⟩) | h1)
        · exact .inl h1
        · exact .inr ⟨c, by omega, h2, h3⟩
        · exact .inr ⟨k, by omega, h, h1⟩
      · rintro (h1 | ⟨c, hc, h2, h3⟩)
        · exact .inl (.inl h1)
        · by_cases e : c = k
          · subst e; exact .inr h3
          · exact .inl (.inr ⟨c, by omega, h2, h3⟩)
    · rw [rdRow_miss h, ih]
      constructor
      · rintro (h1 | ⟨c, hc, h2, h3⟩)
        · exact .inl h1
        · exact .inr ⟨c, by omega, h2, h3⟩
      · rintro (h1 | ⟨c, hc, h2, h3⟩)
        · exact .inl h1
        · by_cases e : c = k
          · subst e; exact absurd h2 h
          · exact .inr ⟨c, by omega, h2, h3⟩
/-- All rows. -/
def rdAll (ps : List (List UInt8)) : Nat → Nat
  | 0 => 0
  | r + 1 => rdRow (rdAll ps r) (ps.getD r []) r (ps.getD r []).length
theorem rdAll_lt (ps : List (List UInt8)) (k : Nat) : rdAll ps k < 2 ^ 24 := by
  induction k with
  | zero => show (0 : Nat) < _; decide
  | succ k ih => exact rdRow_lt ih _ _ _
theorem rdAll_bit (ps : List (List UInt8)) (k i : Nat) : (rdAll ps k).testBit i = true ↔ ∃ r, r < k ∧ ∃ c, c < (ps.getD r []).length ∧ ((ps.getD r []).getD c 0 = 120 ∧ r < 4 ∧ c < 6) ∧ 4 * c + r = i := by
  induction k with
  | zero =>
    show Nat.testBit 0 i = true ↔ _
    rw [Nat.zero_testBit]
    constructor
    · intro h; cases h
    · rintro ⟨r, hr, -⟩; omega
  | succ k ih =>
    show (rdRow (rdAll ps k) (ps.getD k []) k (ps.getD k []).length).testBit i = true ↔ _
    rw [rdRow_bit, ih]
    constructor
    · rintro (⟨r, hr, h⟩ | h)
      · exact ⟨r, by omega, h⟩
      · exact ⟨k, by omega, h⟩
    · rintro ⟨r, hr, h⟩
      by_cases e : r = k
      · subst e; exact .inr h
      · exact .inl ⟨r, by omega, h⟩
def rdW (s : List UInt8) : Nat := rdAll (spl 47 s) (spl 47 s).length
theorem rdW_lt (s : List UInt8) : rdW s < 16777216 := rdAll_lt _ _
/-- The word that has a text, if there is one. -/
def wRead (s : List UInt8) : Option Nat := if wText (rdW s) = s then some (rdW s) else none
theorem spl_app {c : UInt8} {l : List UInt8} (h : ∀ b, b ∈ l → b ≠ c) (m : List UInt8) : spl c (l ++ [c] ++ m) = l :: spl c m := by
  induction l with
  | nil => exact spl_hit c m
  | cons b l ih =>
    have h1 := ih (fun x hx => h x (by simp [hx]))
    exact spl_cons (h b (by simp)) h1
theorem spl_last {c : UInt8} {l : List UInt8} (h : ∀ b, b ∈ l → b ≠ c) : spl c l = [l] := by
  induction l with
  | nil => rfl
  | cons b l ih => exact spl_cons (h b (by simp)) (ih (fun x hx => h x (by simp [hx])))
theorem rowTo_ne (w r k : Nat) : ∀ b, b ∈ rowTo w r k → b ≠ 47 := by
  intro b hb
  obtain ⟨c, -, rfl⟩ := List.mem_map.1 hb
  unfold chB
  split <;> decide
theorem spl_text (w : Nat) : spl 47 (wText w) = [rowTo w 0 6, rowTo w 1 6, rowTo w 2 6, rowTo w 3 6] := by
  rw [wText_eq]
  have e : ∀ (a b : List UInt8), a ++ ([47] ++ b) = a ++ [47] ++ b := fun a b => by simp
  rw [e, spl_app (rowTo_ne w 0 6), e, spl_app (rowTo_ne w 1 6), e, spl_app (rowTo_ne w 2 6), spl_last (rowTo_ne w 3 6)]
theorem rowTo_get (w r c : Nat) (hc : c < 6) : (rowTo w r 6).getD c 0 = chB (w.testBit (4 * c + r)) := by
  unfold rowTo
  simp [List.getD, hc]
theorem chB_iff (b : Bool) : chB b = 120 ↔ b = true := by cases b <;> decide
/-- A text's word is read back. -/
theorem rd_text {v : Nat} (hv : v < 16777216) : rdW (wText v) = v := by
  apply word_ext (rdW_lt _) hv
  intro i hi
  rw [Bool.eq_iff_iff]
  unfold rdW
  rw [rdAll_bit, spl_text]
  have hget : ∀ r, r < 4 → [rowTo v 0 6, rowTo v 1 6, rowTo v 2 6, rowTo v 3 6].getD r [] = rowTo v r 6 := by
    intro r hr
    rcases (show r = 0 ∨ r = 1 ∨ r = 2 ∨ r = 3 by omega) with rfl | rfl | rfl | rfl <;> rfl
  constructor
  · rintro ⟨r, hr, c, hc, ⟨h1, h2, h3⟩, h4⟩
    rw [hget r h2, rowTo_get v r c h3, chB_iff] at h1
    rw [← h4]
    exact h1
  · intro hb
    refine ⟨i % 4, ?_, i / 4, ?_, ⟨?_, by omega, by omega⟩, by omega⟩
    · show i % 4 < 4; omega
    · rw [hget _ (by omega), rowTo_length]; omega
    · rw [hget _ (by omega), rowTo_get v _ _ (by omega), chB_iff, show 4 * (i / 4) + i % 4 = i by omega]
      exact hb

/-- What the reference reads of the first k signs. -/
def spTo (s : List UInt8) : Nat → Nat
  | 0 => 0
  | k + 1 => if k % 7 < 6 ∧ s.getD k 0 = 120 then spTo s k ||| 2 ^ (4 * (k % 7) + k / 7) else spTo s k
theorem spTo_hit {s : List UInt8} {k : Nat} (h : k % 7 < 6 ∧ s.getD k 0 = 120) : spTo s (k + 1) = spTo s k ||| 2 ^ (4 * (k % 7) + k / 7) := by
  show (if _ then _ else _) = _; rw [if_pos h]
theorem spTo_miss {s : List UInt8} {k : Nat} (h : ¬ (k % 7 < 6 ∧ s.getD k 0 = 120)) : spTo s (k + 1) = spTo s k := by
  show (if _ then _ else _) = _; rw [if_neg h]
theorem spTo_bit (s : List UInt8) (k q : Nat) : (spTo s k).testBit q = true ↔ ∃ i, i < k ∧ (i % 7 < 6 ∧ s.getD i 0 = 120) ∧ 4 * (i % 7) + i / 7 = q := by
  induction k with
  | zero =>
    show Nat.testBit 0 q = true ↔ _
    rw [Nat.zero_testBit]
    constructor
    · intro h; cases h
    · rintro ⟨r, hr, -⟩; omega
  | succ k ih =>
    by_cases h : k % 7 < 6 ∧ s.getD k 0 = 120
    · rw [spTo_hit h, Nat.testBit_or, Bool.or_eq_true, ih, Nat.testBit_two_pow, decide_eq_true_eq]
      constructor
      · rintro (⟨i, hi, h2, h3⟩ | h1)
        · exact ⟨i, by omega, h2, h3⟩
        · exact ⟨k, by omega, h, h1⟩
      · rintro ⟨i, hi, h2, h3⟩
        by_cases e : i = k
        · subst e; exact .inr h3
        · exact .inl ⟨i, by omega, h2, h3⟩
    · rw [spTo_miss h, ih]
      constructor
      · rintro ⟨i, hi, h2, h3⟩; exact ⟨i, by omega, h2, h3⟩
      · rintro ⟨i, hi, h2, h3⟩
        by_cases e : i = k
        · subst e; exact absurd h2 h
        · exact ⟨i, by omega, h2, h3⟩
theorem spTo_lt (s : List UInt8) (k : Nat) (hk : k ≤ 27) : spTo s k < 2 ^ 24 := by
  induction k with
  | zero => show (0 : Nat) < _; decide
  | succ k ih =>
    have ih := ih (by omega)
    by_cases h : k % 7 < 6 ∧ s.getD k 0 = 120
    · rw [spTo_hit h]
      exact Nat.or_lt_two_pow ih (Nat.pow_lt_pow_right (by omega) (by omega))
    · rw [spTo_miss h]; exact ih
theorem spTo_fresh (s : List UInt8) {k : Nat} (hk : k < 27) (h6 : k % 7 < 6) : (spTo s k).testBit (4 * (k % 7) + k / 7) = false := by
  rw [Bool.eq_false_iff]
  intro h
  obtain ⟨i, hi, ⟨h1, -⟩, h2⟩ := (spTo_bit s k _).1 h
  omega
/-- Are the first k signs those of a text? -/
def goodTo (s : List UInt8) (k : Nat) : Prop := ∀ i, i < k → if i % 7 = 6 then s.getD i 0 = 47 else s.getD i 0 = 120 ∨ s.getD i 0 = 46
theorem good_text (w : Nat) : goodTo (wText w) 27 := by
  intro i hi
  rw [wText_get w i hi]
  split
  · rfl
  · cases w.testBit (4 * (i % 7) + i / 7)
    · exact .inr rfl
    · exact .inl rfl
theorem elem_getD {l : List UInt8} {i : Nat} (h : i < l.length) : l[i] = l.getD i 0 := by simp [List.getD, h]
theorem read_good {s : List UInt8} (hl : s.length = 27) (h : goodTo s 27) : wRead s = some (spTo s 27) := by
  have hlt := spTo_lt s 27 (Nat.le_refl _)
  have ht : wText (spTo s 27) = s := by
    apply List.ext_getElem
    · rw [wText_length, hl]
    · intro i h1 h2
      have hi : i < 27 := by omega
      rw [elem_getD h1, elem_getD h2, wText_get _ i hi]
      have hg := h i hi
      by_cases h6 : i % 7 = 6
      · rw [if_pos h6] at hg ⊢
        exact hg.symm
      · rw [if_neg h6] at hg ⊢
        have hb : (spTo s 27).testBit (4 * (i % 7) + i / 7) = true ↔ s.getD i 0 = 120 := by
          rw [spTo_bit]
          constructor
          · rintro ⟨j, hj, ⟨h7, h8⟩, h9⟩
            have : j = i := by omega
            rw [← this]; exact h8
          · intro h8
            exact ⟨i, hi, ⟨by omega, h8⟩, rfl⟩
        cases hbit : (spTo s 27).testBit (4 * (i % 7) + i / 7)
        · rcases hg with h8 | h8
          · rw [hb.2 h8] at hbit; cases hbit
          · rw [h8]; rfl
        · rw [hb.1 hbit]; rfl
  unfold wRead
  have e : rdW s = spTo s 27 := by
    have := rd_text hlt
    rw [ht] at this
    exact this
  rw [e, if_pos ht]
theorem read_bad {s : List UInt8} (h : ¬ (s.length = 27 ∧ goodTo s 27)) : wRead s = none := by
  unfold wRead
  rw [if_neg]
  intro e
  apply h
  rw [← e]
  exact ⟨wText_length _, good_text _⟩
theorem read_lt {s : List UInt8} {w : Nat} (h : wRead s = some w) : w < 16777216 := by
  unfold wRead at h
  split at h
  · simp only [Option.some.injEq] at h
    rw [← h]; exact rdW_lt s
  · cases h
end Go.Proofs.YtmgdcnibmifdeaaGreatDoor.Res
