/- Plain laws: the cycles of a permutation of the places. -/
import Derived.Test.YteedbejlbjfkgaaPt
import Derived.Test.YteedbejlbjfkgaaSrt
set_option linter.unusedVariables false
namespace Go.Proofs.Yteedbejlbjfkgaa.Res

/-- The place after n steps. -/
def itP (p : List Int) (i : Nat) : Nat → Nat
  | 0 => i
  | n + 1 => goes p (itP p i n)
/-- What is seen after n steps. -/
def snW (p : List Int) (s i : Nat) : Nat → Nat
  | 0 => s
  | n + 1 => snW p s i n ||| 2 ^ itP p i n
/-- No step met a place that was seen. -/
def frP (p : List Int) (s i n : Nat) : Prop := ∀ m, m < n → (snW p s i m).testBit (itP p i m) = false
/-- The number of steps. -/
def cyF (p : List Int) (s i : Nat) : Nat → Nat → Nat
  | 0, n => n
  | f + 1, n => if (snW p s i n).testBit (itP p i n) then n else cyF p s i f (n + 1)
def cyN (p : List Int) (s i : Nat) : Nat := cyF p s i 25 0
theorem frP_zero (p : List Int) (s i : Nat) : frP p s i 0 := fun m h => absurd h (Nat.not_lt_zero m)
theorem frP_succ {p : List Int} {s i n : Nat} (h : frP p s i n) (hb : (snW p s i n).testBit (itP p i n) = false) : frP p s i (n + 1) := fun m hm => by
  by_cases e : m = n
  · subst e; exact hb
  · exact h m (by omega)
theorem itP_lt {p : List Int} (h : okTo p 24) {i : Nat} (hi : i < 24) (n : Nat) : itP p i n < 24 := by
  induction n with
  | zero => exact hi
  | succ n ih => exact goes_lt h ih
theorem snW_wt {p : List Int} (h : okTo p 24) {s i : Nat} (hi : i < 24) (n : Nat) (hf : frP p s i n) : wt (snW p s i n) = wt s + n := by
  induction n with
  | zero => rfl
  | succ n ih =>
    have ih := ih (fun m hm => hf m (by omega))
    have hw := wtTo_or (hf n (by omega)) 24
    rw [if_pos (itP_lt h hi n)] at hw
    show wtTo (snW p s i n ||| 2 ^ itP p i n) 24 = _
    rw [hw]
    show wt (snW p s i n) + 1 = _
    omega
theorem frP_le {p : List Int} (h : okTo p 24) {s i n : Nat} (hi : i < 24) (hf : frP p s i n) : n ≤ 24 := by
  have h1 := snW_wt h (s := s) hi n hf
  have h2 := wt_le (snW p s i n)
  omega
theorem cyF_eq {p : List Int} {s i n : Nat} (hf : frP p s i n) (hb : (snW p s i n).testBit (itP p i n) = true) : ∀ f m, m ≤ n → n < m + f → cyF p s i f m = n := by
  intro f
  induction f with
  | zero => intro m h1 h2; omega
  | succ f ih =>
    intro m h1 h2
    unfold cyF
    by_cases e : m = n
    · subst e
      rw [hb]
      rfl
    · rw [hf m (by omega)]
      exact ih (m + 1) (by omega) (by omega)
theorem cyN_eq {p : List Int} (h : okTo p 24) {s i n : Nat} (hi : i < 24) (hf : frP p s i n) (hb : (snW p s i n).testBit (itP p i n) = true) : cyN p s i = n :=
  cyF_eq hf hb 25 0 (Nat.zero_le _) (by have := frP_le h hi hf; omega)
/-- There is an end. -/
theorem cyN_end {p : List Int} (h : okTo p 24) (s : Nat) {i : Nat} (hi : i < 24) : frP p s i (cyN p s i) ∧ (snW p s i (cyN p s i)).testBit (itP p i (cyN p s i)) = true := by
  have key : ∀ f n, frP p s i n → 24 < n + f → ∃ k, frP p s i k ∧ (snW p s i k).testBit (itP p i k) = true := by
    intro f
    induction f with
    | zero => intro n hf hn; have := frP_le h hi hf; omega
    | succ f ih =>
      intro n hf hn
      cases hb : (snW p s i n).testBit (itP p i n)
      · exact ih (n + 1) (frP_succ hf hb) (by omega)
      · exact ⟨n, hf, hb⟩
  obtain ⟨k, h1, h2⟩ := key 25 0 (frP_zero p s i) (by omega)
  rw [cyN_eq h hi h1 h2]
  exact ⟨h1, h2⟩

/-- What is seen, and the lengths of the cycles, after the first k places. -/
def csS (p : List Int) : Nat → Nat
  | 0 => 0
  | k + 1 => snW p (csS p k) k (cyN p (csS p k) k)
def csL (p : List Int) : Nat → List Int
  | 0 => []
  | k + 1 => if 0 < cyN p (csS p k) k then csL p k ++ [((cyN p (csS p k) k : Nat) : Int)] else csL p k
def cyL (p : List Int) : List Int := srt (csL p 24)
theorem csL_hit {p : List Int} {k : Nat} (h : 0 < cyN p (csS p k) k) : csL p (k + 1) = csL p k ++ [((cyN p (csS p k) k : Nat) : Int)] := by simp [csL, h]
theorem csL_miss {p : List Int} {k : Nat} (h : cyN p (csS p k) k = 0) : csL p (k + 1) = csL p k := by simp [csL, h]
theorem csL_length (p : List Int) (k : Nat) : (csL p k).length ≤ k := by
  induction k with
  | zero => simp [csL]
  | succ k ih =>
    simp only [csL]
    split
    · simp; omega
    · omega
theorem csL_grows (p : List Int) (k m : Nat) (h : k ≤ m) : (csL p k).length ≤ (csL p m).length := by
  induction m with
  | zero => have : k = 0 := by omega
            subst this; omega
  | succ m ih =>
    by_cases e : k = m + 1
    · subst e; omega
    · have := ih (by omega)
      simp only [csL]
      split
      · simp; omega
      · omega
theorem cyN_first (p : List Int) : 0 < cyN p (csS p 0) 0 := by
  show 0 < cyF p 0 0 25 0
  have h0 : (snW p 0 0 0).testBit (itP p 0 0) = false := Nat.zero_testBit _
  have hge : ∀ f n, n ≤ cyF p 0 0 f n := by
    intro f
    induction f with
    | zero => intro n; exact Nat.le_refl _
    | succ f ih =>
      intro n
      unfold cyF
      split
      · exact Nat.le_refl _
      · have := ih (n + 1); omega
  unfold cyF
  rw [h0]
  have := hge 24 1
  simp
  omega
theorem csL_pos (p : List Int) : 0 < (csL p 24).length := by
  have h1 := csL_grows p 1 24 (by omega)
  have h2 : csL p 1 = csL p 0 ++ [((cyN p (csS p 0) 0 : Nat) : Int)] := csL_hit (cyN_first p)
  rw [h2] at h1
  simp at h1
  omega
theorem cyL_length (p : List Int) : (cyL p).length ≤ 24 := by
  unfold cyL
  rw [srt_length]
  exact csL_length p 24

end Go.Proofs.Yteedbejlbjfkgaa.Res
