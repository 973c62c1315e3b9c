/- Plain laws: cycles are orbits; turned permutations have the same cycles; lengths sum to 24; ones are fixed places. -/
import Derived.Test.YteedbejlbjfkgaaCy
set_option linter.unusedVariables false
namespace Go.Proofs.Yteedbejlbjfkgaa.Res

/-- A word of whole cycles. -/
def clW (p : List Int) (s : Nat) : Prop := ∀ x, x < 24 → s.testBit (goes p x) = s.testBit x
theorem snW_bit (p : List Int) (s i n x : Nat) : (snW p s i n).testBit x = true ↔ s.testBit x = true ∨ ∃ m, m < n ∧ itP p i m = x := by
  induction n with
  | zero =>
    show s.testBit x = true ↔ _
    constructor
    · intro h; exact .inl h
    · rintro (h | ⟨m, hm, -⟩)
      · exact h
      · omega
  | succ n ih =>
    show (snW p s i n ||| 2 ^ itP p i n).testBit x = true ↔ _
    rw [Nat.testBit_or, Bool.or_eq_true, ih, Nat.testBit_two_pow, decide_eq_true_eq]
    constructor
    · rintro ((h | ⟨m, hm, e⟩) | e)
      · exact .inl h
      · exact .inr ⟨m, by omega, e⟩
      · exact .inr ⟨n, by omega, e⟩
    · rintro (h | ⟨m, hm, e⟩)
      · exact .inl (.inl h)
      · by_cases e2 : m = n
        · subst e2; exact .inr e
        · exact .inl (.inr ⟨m, by omega, e⟩)
theorem snW_lt {p : List Int} (h : okTo p 24) {s i : Nat} (hs : s < 16777216) (hi : i < 24) (n : Nat) : snW p s i n < 16777216 := by
  induction n with
  | zero => exact hs
  | succ n ih => exact Nat.or_lt_two_pow (n := 24) ih (Nat.pow_lt_pow_right (by omega) (itP_lt h hi n))
theorem cyN_seen {p : List Int} (h : okTo p 24) {s i : Nat} (hi : i < 24) (hs : s.testBit i = true) : cyN p s i = 0 := cyN_eq h hi (frP_zero p s i) hs
/-- A cycle that begins outside a word of whole cycles. -/
theorem cycle {p : List Int} (h : okTo p 24) {s i : Nat} (hc : clW p s) (hi : i < 24) (hs : s.testBit i = false) :
    0 < cyN p s i ∧ itP p i (cyN p s i) = i ∧ clW p (snW p s i (cyN p s i)) := by
  obtain ⟨hf, hb⟩ := cyN_end h s hi
  generalize cyN p s i = n at *
  have hn : 0 < n := by
    cases n with
    | zero => rw [show snW p s i 0 = s from rfl, show itP p i 0 = i from rfl, hs] at hb; cases hb
    | succ n => omega
  have hret : itP p i n = i := by
    obtain ⟨k, rfl⟩ : ∃ k, n = k + 1 := ⟨n - 1, by omega⟩
    have hk := hf k (by omega)
    rcases (snW_bit p s i (k + 1) _).1 hb with h1 | ⟨m, hm, e⟩
    · exfalso
      rw [show itP p i (k + 1) = goes p (itP p i k) from rfl, hc _ (itP_lt h hi k)] at h1
      have : (snW p s i k).testBit (itP p i k) = true := (snW_bit p s i k _).2 (.inl h1)
      rw [this] at hk
      cases hk
    · cases m with
      | zero => exact e.symm
      | succ m =>
        exfalso
        have e2 := goes_inj h (itP_lt h hi m) (itP_lt h hi k) e
        have : (snW p s i k).testBit (itP p i k) = true := (snW_bit p s i k _).2 (.inr ⟨m, by omega, e2⟩)
        rw [this] at hk
        cases hk
  refine ⟨hn, hret, fun x hx => ?_⟩
  rw [Bool.eq_iff_iff, snW_bit, snW_bit, hc x hx]
  constructor
  · rintro (h1 | ⟨m, hm, e⟩)
    · exact .inl h1
    · refine .inr ?_
      cases m with
      | zero =>
        refine ⟨n - 1, by omega, goes_inj h (itP_lt h hi _) hx ?_⟩
        have e3 : goes p (itP p i (n - 1)) = itP p i n := by rw [show n = n - 1 + 1 by omega]; rfl
        rw [e3, hret]
        exact e
      | succ m => exact ⟨m, by omega, goes_inj h (itP_lt h hi m) hx e⟩
  · rintro (h1 | ⟨m, hm, e⟩)
    · exact .inl h1
    · refine .inr ?_
      by_cases e2 : m + 1 = n
      · refine ⟨0, hn, ?_⟩
        rw [← e]
        show i = itP p i (m + 1)
        rw [e2, hret]
      · exact ⟨m + 1, by omega, by rw [← e]; rfl⟩
theorem clW_iter {p : List Int} (h : okTo p 24) {t i : Nat} (hc : clW p t) (hi : i < 24) (ht : t.testBit i = true) (m : Nat) : t.testBit (itP p i m) = true := by
  induction m with
  | zero => exact ht
  | succ m ih =>
    show t.testBit (goes p (itP p i m)) = true
    rw [hc _ (itP_lt h hi m)]
    exact ih
theorem clW_turn {p : List Int} (hl : p.length = 24) (h : okTo p 24) {s : Nat} (hc : clW p s) : clW (tnL p) s := fun x hx => by
  have h1 := hc _ (goes_lt (tnL_ok hl h) hx)
  rw [goes_tnL hl h hx] at h1
  exact h1.symm
theorem csS_closed {p : List Int} (h : okTo p 24) (k : Nat) (hk : k ≤ 24) : clW p (csS p k) ∧ csS p k < 16777216 := by
  induction k with
  | zero => exact ⟨fun x _ => by show Nat.testBit 0 _ = Nat.testBit 0 _; rw [Nat.zero_testBit, Nat.zero_testBit], by show (0 : Nat) < _; omega⟩
  | succ k ih =>
    obtain ⟨hc, hlt⟩ := ih (by omega)
    refine ⟨?_, snW_lt h hlt (by omega) _⟩
    show clW p (snW p (csS p k) k (cyN p (csS p k) k))
    cases hb : (csS p k).testBit k
    · exact (cycle h hc (by omega) hb).2.2
    · rw [cyN_seen h (by omega) hb]
      exact hc
/-- The same orbits, forth and back. -/
theorem cycle_turn {p q : List Int} (h : okTo p 24) (g : okTo q 24) {s i : Nat} (hs : s < 16777216) (hq : ∀ t, clW p t → clW q t) (hp : ∀ t, clW q t → clW p t) (hc : clW p s) (hi : i < 24) :
    cyN p s i = cyN q s i ∧ snW p s i (cyN p s i) = snW q s i (cyN q s i) := by
  cases hb : s.testBit i
  · obtain ⟨n1, -, c1⟩ := cycle h hc hi hb
    obtain ⟨n2, -, c2⟩ := cycle g (hq s hc) hi hb
    have w1 := snW_wt h hi _ (cyN_end h s hi).1
    have w2 := snW_wt g hi _ (cyN_end g s hi).1
    have e : snW p s i (cyN p s i) = snW q s i (cyN q s i) := by
      apply word_ext (snW_lt h hs hi _) (snW_lt g hs hi _)
      intro x hx
      rw [Bool.eq_iff_iff]
      constructor
      · intro hbx
        rcases (snW_bit p s i _ x).1 hbx with h1 | ⟨m, hm, e⟩
        · exact (snW_bit q s i _ x).2 (.inl h1)
        · rw [← e]
          exact clW_iter h (hp _ c2) hi ((snW_bit q s i _ i).2 (.inr ⟨0, n2, rfl⟩)) m
      · intro hbx
        rcases (snW_bit q s i _ x).1 hbx with h1 | ⟨m, hm, e⟩
        · exact (snW_bit p s i _ x).2 (.inl h1)
        · rw [← e]
          exact clW_iter g (hq _ c1) hi ((snW_bit p s i _ i).2 (.inr ⟨0, n1, rfl⟩)) m
    refine ⟨?_, e⟩
    rw [e] at w1
    omega
  · rw [cyN_seen h hi hb, cyN_seen g hi hb]
    exact ⟨rfl, rfl⟩
theorem cs_turn {p : List Int} (hl : p.length = 24) (h : okTo p 24) (k : Nat) (hk : k ≤ 24) : csS p k = csS (tnL p) k ∧ csL p k = csL (tnL p) k := by
  have g := tnL_ok hl h
  have hp : ∀ t, clW (tnL p) t → clW p t := fun t ht x hx => by
    have h1 := ht _ (goes_lt h hx)
    rw [tnL_goes h hx] at h1
    exact h1.symm
  have hq : ∀ t, clW p t → clW (tnL p) t := fun t ht => clW_turn hl h ht
  generalize tnL p = q at *
  induction k with
  | zero => exact ⟨rfl, rfl⟩
  | succ k ih =>
    obtain ⟨e1, e2⟩ := ih (by omega)
    obtain ⟨hc, hlt⟩ := csS_closed h k (by omega)
    obtain ⟨f1, f2⟩ := cycle_turn h g (i := k) hlt hq hp hc (by omega)
    constructor
    · show snW p (csS p k) k (cyN p (csS p k) k) = snW q (csS q k) k (cyN q (csS q k) k)
      rw [← e1]
      exact f2
    · simp only [csL]
      rw [← e1, ← f1, ← e2]
/-- Turned, a permutation has the same cycles. -/
theorem cyL_turn {p : List Int} (hl : p.length = 24) (h : okTo p 24) : cyL (tnL p) = cyL p := by
  unfold cyL
  rw [(cs_turn hl h 24 (Nat.le_refl _)).2]

/-- Sums, and the number of ones, of the first k numbers. -/
def smTo (l : List Int) : Nat → Int
  | 0 => 0
  | k + 1 => smTo l k + l.getD k 0
def onTo (l : List Int) : Nat → Int
  | 0 => 0
  | k + 1 => onTo l k + if l.getD k 0 = 1 then 1 else 0
def smL : List Int → Int
  | [] => 0
  | x :: l => x + smL l
def onL : List Int → Int
  | [] => 0
  | x :: l => (if x = 1 then 1 else 0) + onL l
theorem smL_append (l m : List Int) : smL (l ++ m) = smL l + smL m := by
  induction l with
  | nil => simp [smL]
  | cons x l ih => simp only [List.cons_append, smL, ih]; omega
theorem onL_append (l m : List Int) : onL (l ++ m) = onL l + onL m := by
  induction l with
  | nil => simp [onL]
  | cons x l ih => simp only [List.cons_append, onL, ih]; omega
theorem smTo_take (l : List Int) (k : Nat) (hk : k ≤ l.length) : smTo l k = smL (l.take k) ∧ onTo l k = onL (l.take k) := by
  induction k with
  | zero => exact ⟨rfl, rfl⟩
  | succ k ih =>
    obtain ⟨e1, e2⟩ := ih (by omega)
    have hx : l.take (k + 1) = l.take k ++ [l.getD k 0] := by
      rw [List.take_succ_eq_append_getElem (by omega)]
      simp [List.getD, show k < l.length by omega]
    rw [hx, smL_append, onL_append]
    simp only [smTo, onTo, e1, e2, smL, onL]
    omega
theorem smTo_all (l : List Int) : smTo l l.length = smL l ∧ onTo l l.length = onL l := by
  have h := smTo_take l l.length (Nat.le_refl _)
  rw [List.take_length] at h
  exact h
theorem smL_perm {l m : List Int} (h : l.Perm m) : smL l = smL m ∧ onL l = onL m := by
  induction h with
  | nil => exact ⟨rfl, rfl⟩
  | cons x h ih => simp only [smL, onL, ih.1, ih.2]; exact ⟨trivial, trivial⟩
  | swap x y l => simp only [smL, onL]; omega
  | trans h1 h2 ih1 ih2 => exact ⟨ih1.1.trans ih2.1, ih1.2.trans ih2.2⟩
theorem csL_sum {p : List Int} (h : okTo p 24) (k : Nat) (hk : k ≤ 24) : smL (csL p k) = ((wt (csS p k) : Nat) : Int) := by
  induction k with
  | zero => show (0 : Int) = ((wt 0 : Nat) : Int); rw [wt_zero]; rfl
  | succ k ih =>
    have ih := ih (by omega)
    have hw := snW_wt h (s := csS p k) (show k < 24 by omega) _ (cyN_end h (csS p k) (by omega)).1
    show smL (csL p (k + 1)) = ((wt (snW p (csS p k) k (cyN p (csS p k) k)) : Nat) : Int)
    rw [hw]
    by_cases h0 : cyN p (csS p k) k = 0
    · rw [csL_miss h0, ih, h0]; omega
    · rw [csL_hit (by omega), smL_append, ih]
      simp only [smL]
      omega
theorem csS_full {p : List Int} (h : okTo p 24) : csS p 24 = 16777215 := by
  have key : ∀ k, k ≤ 24 → ∀ x, x < k → (csS p k).testBit x = true := by
    intro k
    induction k with
    | zero => intro _ x hx; omega
    | succ k ih =>
      intro hk x hx
      show (snW p (csS p k) k (cyN p (csS p k) k)).testBit x = true
      rw [snW_bit]
      by_cases e : x = k
      · subst e
        cases hb : (csS p x).testBit x
        · exact .inr ⟨0, (cycle h (csS_closed h x (by omega)).1 (by omega) hb).1, rfl⟩
        · exact .inl rfl
      · exact .inl (ih (by omega) x (by omega))
  apply word_ext (csS_closed h 24 (Nat.le_refl _)).2 (by omega)
  intro x hx
  rw [key 24 (Nat.le_refl _) x hx, full_bit hx]
theorem wt_fullw : wt 16777215 = 24 := by decide +kernel
/-- Cycles have all places. -/
theorem cyL_sum {p : List Int} (h : okTo p 24) : smL (cyL p) = 24 := by
  unfold cyL
  rw [(smL_perm (srt_perm _)).1, csL_sum h 24 (Nat.le_refl _), csS_full h, wt_fullw]
  rfl
theorem it_fixed {p : List Int} (h : okTo p 24) {x i : Nat} (hx : x < 24) (hi : i < 24) (hf : goes p x = x) (m : Nat) : itP p i m = x → i = x := by
  induction m with
  | zero => exact fun e => e
  | succ m ih =>
    intro e
    refine ih (goes_inj h (itP_lt h hi m) hx ?_)
    rw [hf]
    exact e
theorem fixed_fresh {p : List Int} (h : okTo p 24) {x : Nat} (hx : x < 24) (hf : goes p x = x) (k : Nat) (hk : k ≤ x) : (csS p k).testBit x = false := by
  induction k with
  | zero => exact Nat.zero_testBit _
  | succ k ih =>
    have ih := ih (by omega)
    cases hb : (csS p (k + 1)).testBit x
    · rfl
    · rcases (snW_bit p (csS p k) k _ x).1 hb with h1 | ⟨m, -, e⟩
      · rw [ih] at h1; cases h1
      · have := it_fixed h hx (show k < 24 by omega) hf m e
        omega
theorem cyN_one {p : List Int} (h : okTo p 24) {k : Nat} (hk : k < 24) : cyN p (csS p k) k = 1 ↔ goes p k = k := by
  constructor
  · intro e
    cases hb : (csS p k).testBit k
    · have h1 := (cycle h (csS_closed h k (by omega)).1 hk hb).2.1
      rw [e] at h1
      exact h1
    · rw [cyN_seen h hk hb] at e
      cases e
  · intro hf
    have h0 := fixed_fresh h hk hf k (Nat.le_refl _)
    refine cyN_eq h hk (frP_succ (frP_zero p _ k) h0) ((snW_bit p _ k 1 _).2 (.inr ⟨0, by omega, ?_⟩))
    show k = goes p k
    rw [hf]
theorem csL_ones {p : List Int} (h : okTo p 24) (k : Nat) (hk : k ≤ 24) : onL (csL p k) = ((wt (fxTo p k) : Nat) : Int) := by
  induction k with
  | zero => show (0 : Int) = ((wt 0 : Nat) : Int); rw [wt_zero]; rfl
  | succ k ih =>
    have ih := ih (by omega)
    have h1 := cyN_one h (show k < 24 by omega)
    by_cases hf : goes p k = k
    · have e := h1.2 hf
      have hbit : (fxTo p k).testBit k = false := by rw [fxTo_bit]; simp
      have hw := wtTo_or hbit 24
      rw [if_pos (by omega)] at hw
      rw [csL_hit (by omega), onL_append, ih, fxTo_hit hf, e]
      show _ = ((wtTo (fxTo p k ||| 2 ^ k) 24 : Nat) : Int)
      rw [hw]
      simp only [onL]
      show ((wt (fxTo p k) : Nat) : Int) + _ = ((wt (fxTo p k) + 1 : Nat) : Int)
      rw [if_pos (by rfl)]
      omega
    · have e : cyN p (csS p k) k ≠ 1 := fun e => hf (h1.1 e)
      rw [fxTo_miss hf]
      by_cases h0 : cyN p (csS p k) k = 0
      · rw [csL_miss h0, ih]
      · rw [csL_hit (by omega), onL_append, ih]
        simp only [onL]
        rw [if_neg (by omega)]
        omega
theorem cyL_ones {p : List Int} (h : okTo p 24) : onL (cyL p) = ((wt (fxW p) : Nat) : Int) := by
  unfold cyL
  rw [(smL_perm (srt_perm _)).2, csL_ones h 24 (Nat.le_refl _)]
  rfl

/-- Lengths lie between 1 and 24. -/
theorem csL_range {p : List Int} (h : okTo p 24) (k : Nat) (hk : k ≤ 24) : ∀ x, x ∈ csL p k → 1 ≤ x ∧ x ≤ 24 := by
  induction k with
  | zero => intro x hx; simp [csL] at hx
  | succ k ih =>
    intro x hx
    have hle := frP_le h (show k < 24 by omega) (cyN_end h (csS p k) (by omega)).1
    by_cases h0 : cyN p (csS p k) k = 0
    · rw [csL_miss h0] at hx
      exact ih (by omega) x hx
    · rw [csL_hit (by omega)] at hx
      rcases List.mem_append.1 hx with h1 | h1
      · exact ih (by omega) x h1
      · rw [List.mem_singleton] at h1
        omega
theorem cyL_range {p : List Int} (h : okTo p 24) {k : Nat} (hk : k < (cyL p).length) : 1 ≤ (cyL p).getD k 0 ∧ (cyL p).getD k 0 ≤ 24 := by
  have hm : (cyL p).getD k 0 ∈ cyL p := by simp [List.getD, hk]
  exact csL_range h 24 (Nat.le_refl _) _ ((srt_perm _).mem_iff.1 hm)
theorem smTo_bd {l : List Int} (h : ∀ k, k < l.length → 1 ≤ l.getD k 0 ∧ l.getD k 0 ≤ 24) (k : Nat) (hk : k ≤ l.length) : 0 ≤ smTo l k ∧ smTo l k ≤ 24 * (k : Int) ∧ 0 ≤ onTo l k ∧ onTo l k ≤ (k : Int) := by
  induction k with
  | zero => simp [smTo, onTo]
  | succ k ih =>
    obtain ⟨h1, h2, h3, h4⟩ := ih (by omega)
    obtain ⟨h5, h6⟩ := h k (by omega)
    simp only [smTo, onTo]
    refine ⟨by omega, by omega, ?_, ?_⟩ <;> split <;> omega
theorem onTo_hit {l : List Int} {k : Nat} (h : l.getD k 0 = 1) : onTo l (k + 1) = onTo l k + 1 := by simp only [onTo]; rw [if_pos h]
theorem onTo_miss {l : List Int} {k : Nat} (h : l.getD k 0 ≠ 1) : onTo l (k + 1) = onTo l k := by simp only [onTo]; rw [if_neg h]; omega
theorem cyL_order (p : List Int) {i j : Nat} (hij : i < j) (hj : j < (cyL p).length) : (cyL p).getD i 0 ≤ (cyL p).getD j 0 := srt_order hij hj

end Go.Proofs.Yteedbejlbjfkgaa.Res
