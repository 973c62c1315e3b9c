/- Plain laws on permutations of the places: lists of 24 different places. -/
import Derived.Test.YtmgdcnibmifdeaaGreatDoorWd
import Derived.Test.YtmgdcnibmifdeaaGreatDoorRes
set_option linter.unusedVariables false
namespace Go.Proofs.YtmgdcnibmifdeaaGreatDoor.Res

/-- All numbers are places, and no two are the same. -/
def diff (l : List Int) : Bool := l.all (fun n => inB n 0 23) && decide l.Nodup
/-- Is a list a permutation? -/
def permOk (l : List Int) : Bool := l.length == 24 && diff l

/-- The word of the first k places of a list. -/
def mk (l : List Int) : Nat → Nat
  | 0 => 0
  | k + 1 => mk l k ||| 2 ^ (l.getD k 0).toNat

theorem mk_bit (l : List Int) (k q : Nat) : (mk l k).testBit q = true ↔ ∃ i, i < k ∧ (l.getD i 0).toNat = q := by
  induction k with
  | zero => simp [mk]
  | succ k ih =>
    show (mk l k ||| 2 ^ (l.getD k 0).toNat).testBit q = true ↔ _
    rw [Nat.testBit_or, Bool.or_eq_true, ih, Nat.testBit_two_pow, decide_eq_true_eq]
    constructor
    · rintro (⟨i, hi, e⟩ | e)
      · exact ⟨i, by omega, e⟩
      · exact ⟨k, by omega, e⟩
    · rintro ⟨i, hi, e⟩
      by_cases hk : i = k
      · subst hk; exact .inr e
      · exact .inl ⟨i, by omega, e⟩

/-- The first k numbers are places, all different. -/
def okTo (l : List Int) (k : Nat) : Prop := (∀ i, i < k → 0 ≤ l.getD i 0 ∧ l.getD i 0 ≤ 23) ∧ ∀ i j, i < j → j < k → l.getD i 0 ≠ l.getD j 0
theorem okTo_zero (l : List Int) : okTo l 0 := ⟨fun _ h => by omega, fun _ _ _ h => by omega⟩
theorem mk_lt {l : List Int} {k : Nat} (h : okTo l k) : mk l k < 2 ^ 24 := by
  induction k with
  | zero => simp [mk]
  | succ k ih =>
    have h1 := ih ⟨fun i hi => h.1 i (by omega), fun i j hi hj => h.2 i j hi (by omega)⟩
    have h2 := h.1 k (by omega)
    exact Nat.or_lt_two_pow h1 (Nat.pow_lt_pow_right (by omega) (by omega))
theorem okTo_step {l : List Int} {k : Nat} (h : okTo l k) (h0 : 0 ≤ l.getD k 0) (h1 : l.getD k 0 ≤ 23) (hb : (mk l k).testBit (l.getD k 0).toNat = false) : okTo l (k + 1) := by
  refine ⟨fun i hi => ?_, fun i j hi hj => ?_⟩
  · by_cases e : i = k
    · subst e; exact ⟨h0, h1⟩
    · exact h.1 i (by omega)
  · by_cases e : j = k
    · subst e
      intro he
      have : (mk l j).testBit (l.getD j 0).toNat = true := (mk_bit l j _).2 ⟨i, hi, by rw [he]⟩
      rw [this] at hb
      cases hb
    · exact h.2 i j hi (by omega)
theorem getD_get {l : List Int} {i : Nat} (h : i < l.length) : l.getD i 0 = l[i] := by simp [List.getD, h]
theorem okTo_iff (l : List Int) : okTo l l.length ↔ diff l = true := by
  unfold okTo diff
  rw [Bool.and_eq_true, List.all_eq_true, decide_eq_true_eq, List.nodup_iff_pairwise_ne, List.pairwise_iff_getElem]
  constructor
  · rintro ⟨h1, h2⟩
    refine ⟨fun x hx => ?_, fun i j hi hj hij => ?_⟩
    · obtain ⟨i, hi, rfl⟩ := List.getElem_of_mem hx
      have := h1 i hi
      rw [getD_get hi] at this
      exact inB_true this.1 this.2
    · have := h2 i j hij hj
      rw [getD_get hi, getD_get hj] at this
      exact this
  · rintro ⟨h1, h2⟩
    refine ⟨fun i hi => ?_, fun i j hij hj => ?_⟩
    · rw [getD_get hi]
      exact inB_iff.1 (h1 _ (List.getElem_mem hi))
    · rw [getD_get (show i < l.length by omega), getD_get hj]
      exact h2 i j (by omega) hj hij
theorem diff_out {l : List Int} {k : Nat} (hk : k < l.length) (h : inB (l.getD k 0) 0 23 = false) : diff l = false := by
  rw [Bool.eq_false_iff]
  intro hd
  have := ((okTo_iff l).2 hd).1 k hk
  rw [inB_true this.1 this.2] at h
  cases h
theorem diff_twice {l : List Int} {k : Nat} (hk : k < l.length) (h0 : 0 ≤ l.getD k 0) (h : okTo l k) (hb : (mk l k).testBit (l.getD k 0).toNat = true) : diff l = false := by
  rw [Bool.eq_false_iff]
  intro hd
  obtain ⟨i, hi, e⟩ := (mk_bit l k _).1 hb
  have hi0 := (h.1 i hi).1
  exact ((okTo_iff l).2 hd).2 i k hi hk (by omega)

/-- How many places a word has that gets one more. -/
theorem bitN_or {x p : Nat} (hp : x.testBit p = false) (k : Nat) : bitN (x ||| 2 ^ p) k = bitN x k + (if k = p then 1 else 0) := by
  have h : (x ||| 2 ^ p).testBit k = (x.testBit k || decide (p = k)) := by rw [Nat.testBit_or, Nat.testBit_two_pow]
  by_cases e : k = p
  · subst e
    rw [hp] at h
    rw [bitN_true (by simp), bitN_false hp, if_pos rfl]
  · rw [if_neg e, Nat.add_zero]
    rw [show decide (p = k) = false by simp; omega, Bool.or_false] at h
    cases hx : x.testBit k
    · rw [bitN_false (h.trans hx), bitN_false hx]
    · rw [bitN_true (h.trans hx), bitN_true hx]
theorem wtTo_or {x p : Nat} (hp : x.testBit p = false) (k : Nat) : wtTo (x ||| 2 ^ p) k = wtTo x k + (if p < k then 1 else 0) := by
  induction k with
  | zero => simp [wtTo]
  | succ k ih =>
    show wtTo (x ||| 2 ^ p) k + bitN (x ||| 2 ^ p) k = wtTo x k + bitN x k + _
    rw [ih, bitN_or hp]
    split <;> split <;> split <;> omega
theorem mk_wt {l : List Int} {k : Nat} (h : okTo l k) : wt (mk l k) = k := by
  induction k with
  | zero => show wt 0 = 0; decide
  | succ k ih =>
    have h' : okTo l k := ⟨fun i hi => h.1 i (by omega), fun i j hi hj => h.2 i j hi (by omega)⟩
    have h2 := h.1 k (by omega)
    have hb : (mk l k).testBit (l.getD k 0).toNat = false := by
      rw [Bool.eq_false_iff]
      intro hb
      obtain ⟨i, hi, e⟩ := (mk_bit l k _).1 hb
      have := (h.1 i (by omega)).1
      exact h.2 i k hi (by omega) (by omega)
    show wtTo (mk l k ||| _) 24 = _
    rw [wtTo_or hb, if_pos (by omega)]
    have := ih h'
    unfold wt at this
    rw [this]
theorem wtTo_full {x k : Nat} (h : wtTo x k = k) : ∀ i, i < k → x.testBit i = true := by
  induction k with
  | zero => intro i hi; omega
  | succ k ih =>
    have h1 : wtTo x k + bitN x k = k + 1 := h
    have h2 := wtTo_le x k
    have h3 := bitN_le x k
    intro i hi
    by_cases e : i = k
    · subst e
      cases hx : x.testBit i
      · rw [bitN_false hx] at h1; omega
      · rfl
    · exact ih (by omega) i (by omega)
/-- Different places fill the word just if there are 24 of them. -/
theorem mk_full {l : List Int} (h : okTo l l.length) : (mk l l.length == 16777215) = (l.length == 24) := by
  have hw := mk_wt h
  have hlt := mk_lt h
  rw [Bool.eq_iff_iff, beq_iff_eq, beq_iff_eq]
  constructor
  · intro e
    rw [e] at hw
    rw [← hw]
    decide
  · intro e
    rw [e] at hw hlt ⊢
    apply word_ext hlt (by decide)
    intro i hi
    rw [wtTo_full hw i hi]
    have : ∀ i, i < 24 → Nat.testBit 16777215 i = true := by decide
    rw [this i hi]

/-- A bit that is not there is added or laid: the same. -/
theorem add_bit {x p : Nat} (h : x.testBit p = false) : x + 2 ^ p = x ||| 2 ^ p := by
  have hlo : x % 2 ^ (p + 1) < 2 ^ p := by
    have h1 : x % 2 ^ (p + 1) = x % 2 ^ p + 2 ^ p * (x / 2 ^ p % 2) := by
      rw [Nat.pow_succ, Nat.mod_mul]
    rw [testBit_div, decide_eq_false_iff_not] at h
    rw [h1, show x / 2 ^ p % 2 = 0 by omega, Nat.mul_zero, Nat.add_zero]
    exact Nat.mod_lt _ (Nat.two_pow_pos p)
  have hx : x = 2 ^ (p + 1) * (x / 2 ^ (p + 1)) + x % 2 ^ (p + 1) := (Nat.div_add_mod _ _).symm
  generalize x / 2 ^ (p + 1) = hi at *
  generalize x % 2 ^ (p + 1) = lo at *
  have e1 : 2 ^ (p + 1) * hi + lo = 2 ^ (p + 1) * hi ||| lo := Nat.two_pow_add_eq_or_of_lt (Nat.lt_of_lt_of_le hlo (Nat.pow_le_pow_right (by omega) (by omega))) hi
  have e2 : 2 ^ p * 1 + lo = 2 ^ p * 1 ||| lo := Nat.two_pow_add_eq_or_of_lt hlo 1
  have e3 : 2 ^ (p + 1) * hi + (2 ^ p + lo) = 2 ^ (p + 1) * hi ||| (2 ^ p + lo) := Nat.two_pow_add_eq_or_of_lt (by rw [Nat.pow_succ]; omega) hi
  rw [Nat.mul_one] at e2
  rw [hx, e1, Nat.or_assoc, Nat.or_comm lo, ← e2, ← e3, ← e1]
  omega

end Go.Proofs.YtmgdcnibmifdeaaGreatDoor.Res
