/- Plain laws: the code is all that meets it evenly; what keeps the code keeps it when turned, and one after the other. -/
import Derived.Test.YteedbejlbjfkgaaWKeep
import Derived.Test.YteedbejlbjfkgaaPt
set_option linter.unusedVariables false
namespace Go.Proofs.Yteedbejlbjfkgaa
open Res

/-- Places that tell a word of the code, and words of a basis with one of them each; the other places. -/
def pvP : List Nat := [23, 22, 21, 20, 19, 18, 17, 15, 14, 13, 11, 7]
def pvB : List Nat := [8460068, 4265074, 2167367, 1118494, 591452, 329017, 197482, 38505, 21845, 13107, 3855, 255]
def pvJ : List Int := [0, 1, 2, 3, 4, 5, 6, 8, 9, 10, 12, 16]
theorem pv_unit : ∀ i, i < 12 → ∀ k, k < 12 → (pvB.getD k 0).testBit (pvP.getD i 0) = decide (i = k) := by decide +kernel
theorem pv_code : ∀ k, k < 12 → codeB (pvB.getD k 0) = true ∧ pvB.getD k 0 < 16777216 := by decide +kernel
theorem pv_all : ∀ i, i < 24 → (∃ k, k < 12 ∧ pvP.getD k 0 = i) ∨ (∃ k, k < 12 ∧ goes pvJ k = i) := by decide +kernel
theorem pv_part : ∀ k, k < 12 → ∀ j, j < 12 → pvP.getD k 0 ≠ goes pvJ j := by decide +kernel
/-- The places below k where p holds. -/
def wordP' (p : Nat → Bool) : Nat → Nat
  | 0 => 0
  | k + 1 => if p k then wordP' p k ||| 2 ^ k else wordP' p k
theorem wordP'_lt (p : Nat → Bool) (k : Nat) : wordP' p k < 2 ^ k := by
  induction k with
  | zero => simp [wordP']
  | succ k ih =>
    simp only [wordP']
    have h1 : wordP' p k < 2 ^ (k + 1) := Nat.lt_trans ih (Nat.pow_lt_pow_right (by omega) (by omega))
    split
    · exact Nat.or_lt_two_pow h1 (Nat.pow_lt_pow_right (by omega) (by omega))
    · exact h1
theorem wordP'_bit (p : Nat → Bool) (k i : Nat) : (wordP' p k).testBit i = (decide (i < k) && p i) := by
  induction k with
  | zero => simp [wordP']
  | succ k ih =>
    simp only [wordP']
    by_cases hp : p k = true
    · rw [if_pos hp, Nat.testBit_or, ih, Nat.testBit_two_pow]
      by_cases hik : i = k
      · subst hik; simp [hp]
      · by_cases h3 : i < k
        · simp [h3, show i < k + 1 by omega, show ¬ k = i by omega]
        · simp [h3, show ¬ i < k + 1 by omega, show ¬ k = i by omega]
    · rw [if_neg hp, ih]
      by_cases hik : i = k
      · subst hik; simp [hp]
      · by_cases h3 : i < k
        · simp [h3, show i < k + 1 by omega]
        · simp [h3, show ¬ i < k + 1 by omega]
/-- The word of the code with the same places of those. -/
def cbTo (w : Nat) : Nat → Nat
  | 0 => 0
  | k + 1 => if w.testBit (pvP.getD k 0) then cbTo w k ^^^ pvB.getD k 0 else cbTo w k
theorem cbTo_code (w k : Nat) (hk : k ≤ 12) : codeB (cbTo w k) = true ∧ cbTo w k < 16777216 := by
  induction k with
  | zero => exact ⟨codeB_zero, show (0 : Nat) < 16777216 by omega⟩
  | succ k ih =>
    obtain ⟨h1, h2⟩ := ih (by omega)
    obtain ⟨g1, g2⟩ := pv_code k (by omega)
    simp only [cbTo]
    split
    · exact ⟨codeB_xor h2 g2 h1 g1, Nat.xor_lt_two_pow (n := 24) h2 g2⟩
    · exact ⟨h1, h2⟩
theorem cbTo_bit (w i : Nat) (hi : i < 12) (k : Nat) (hk : k ≤ 12) : (cbTo w k).testBit (pvP.getD i 0) = (decide (i < k) && w.testBit (pvP.getD i 0)) := by
  induction k with
  | zero => simp [cbTo]
  | succ k ih =>
    have ih := ih (by omega)
    have hu := pv_unit i hi k (by omega)
    by_cases hb : w.testBit (pvP.getD k 0) = true
    · simp only [cbTo]
      rw [if_pos hb, Nat.testBit_xor, ih, hu]
      by_cases e : i = k
      · subst e
        rw [hb]
        simp
      · by_cases h3 : i < k
        · simp [h3, e, show i < k + 1 by omega]
        · simp [h3, e, show ¬ i < k + 1 by omega]
    · simp only [cbTo]
      rw [if_neg hb, ih]
      by_cases e : i = k
      · subst e
        have : w.testBit (pvP.getD i 0) = false := by simpa using hb
        rw [this]
        simp
      · by_cases h3 : i < k
        · simp [h3, show i < k + 1 by omega]
        · simp [h3, show ¬ i < k + 1 by omega]
set_option maxRecDepth 100000 in
theorem pv_small : allB (fun m => Nat.beq m 0 || !cdBase.all (fun b => Nat.beq (pr (mw pvJ m 12) b) 0)) 12 0 = true := by decide +kernel

theorem mem_getD {l : List Nat} {b : Nat} (h : b ∈ l) : ∃ j, j < l.length ∧ l.getD j 0 = b := by
  obtain ⟨j, hj, e⟩ := List.mem_iff_getElem.1 h
  exact ⟨j, hj, by rw [← e]; simp [List.getD, hj]⟩
/-- The code is all that meets it evenly. -/
theorem dual_code {w : Nat} (hw : w < 16777216) (h : ∀ j, j < 12 → pr w (cdBase.getD j 0) = 0) : codeB w = true := by
  obtain ⟨c1, c2⟩ := cbTo_code w 12 (Nat.le_refl _)
  have hrl : w ^^^ cbTo w 12 < 16777216 := Nat.xor_lt_two_pow (n := 24) hw c2
  have hzero : ∀ i, i < 12 → (w ^^^ cbTo w 12).testBit (pvP.getD i 0) = false := fun i hi => by
    rw [Nat.testBit_xor, cbTo_bit w i hi 12 (Nat.le_refl _)]
    simp [hi]
  have hpr : ∀ j, j < 12 → pr (w ^^^ cbTo w 12) (cdBase.getD j 0) = 0 := fun j hj => by
    have hb : codeB (cdBase.getD j 0) = true := by rw [base_code j hj]; exact code_in _
    have hbl : cdBase.getD j 0 < 16777216 := by rw [base_code j hj]; exact code_lt (Nat.pow_lt_pow_right (n := 12) (by omega) hj)
    rw [pr_xor, h j hj, codeB_pr c2 hbl c1 hb]
  generalize hR : w ^^^ cbTo w 12 = R at *
  have hm : ∃ m, m < 4096 ∧ R = mw pvJ m 12 := by
    refine ⟨wordP' (fun k => R.testBit (goes pvJ k)) 12, wordP'_lt _ 12, ?_⟩
    apply Nat.eq_of_testBit_eq
    intro i
    rw [Bool.eq_iff_iff, mw_bit]
    constructor
    · intro hi
      have hi24 : i < 24 := by
        by_cases h24 : i < 24
        · exact h24
        · rw [Nat.testBit_lt_two_pow (Nat.lt_of_lt_of_le hrl (Nat.pow_le_pow_right (n := 2) (by omega) (show 24 ≤ i by omega)))] at hi
          cases hi
      rcases pv_all i hi24 with ⟨k, hk, e⟩ | ⟨k, hk, e⟩
      · rw [← e, hzero k hk] at hi
        cases hi
      · refine ⟨k, hk, ?_, e⟩
        rw [wordP'_bit, e, hi]
        simp [hk]
    · rintro ⟨k, hk, h1, e⟩
      rw [wordP'_bit, e] at h1
      simp [hk] at h1
      exact h1
  obtain ⟨m, hm4, hRm⟩ := hm
  have hs := allB_all 12 pv_small m hm4
  rw [Bool.or_eq_true] at hs
  rcases hs with hs | hs
  · have : m = 0 := Nat.eq_of_beq_eq_true hs
    subst this
    have hR0 : R = 0 := by
      rw [hRm]
      decide +kernel
    rw [hR0] at hR
    have : w = cbTo w 12 := by
      have h2 := congrArg (· ^^^ cbTo w 12) hR
      simp only [Nat.xor_assoc, Nat.xor_self, Nat.xor_zero, Nat.zero_xor] at h2
      exact h2
    rw [this]
    exact c1
  · exfalso
    have ha : cdBase.all (fun b => Nat.beq (pr (mw pvJ m 12) b) 0) = true := by
      rw [List.all_eq_true]
      intro b hb
      obtain ⟨j, hj, e⟩ := mem_getD hb
      have := hpr j hj
      rw [← hRm, ← e, this]
      rfl
    rw [ha] at hs
    cases hs

theorem mvW_and {p : List Int} (hl : p.length = 24) (h : okTo p 24) (x y : Nat) : mvW p (x &&& y) = mvW p x &&& mvW p y := by
  apply word_ext (mvW_lt h _) (Nat.lt_of_le_of_lt Nat.and_le_left (mvW_lt h x))
  intro j hj
  obtain ⟨i, hi, rfl⟩ := goes_onto hl h hj
  rw [Nat.testBit_and, mvW_goes h _ hi, mvW_goes h _ hi, mvW_goes h _ hi, Nat.testBit_and]
theorem keep_perm {p : List Int} (h : keepB p = true) : permOk p = true := by
  unfold keepB at h
  rw [Bool.and_eq_true] at h
  exact h.1
/-- What keeps the code moves a word into it just if the word lies in it. -/
theorem keep_iff {p : List Int} (h : keepB p = true) {n : Nat} (hn : n < 16777216) : codeB (mvW p n) = codeB n := by
  obtain ⟨hl, hok⟩ := permOk_ok (keep_perm h)
  rw [Bool.eq_iff_iff]
  constructor
  · intro hc
    apply dual_code hn
    intro j hj
    have hb : codeB (cdBase.getD j 0) = true := by rw [base_code j hj]; exact code_in _
    have hbl : cdBase.getD j 0 < 16777216 := by rw [base_code j hj]; exact code_lt (Nat.pow_lt_pow_right (n := 12) (by omega) hj)
    have hp := codeB_pr (mvW_lt hok n) (mvW_lt hok _) hc (keep_code h hbl hb)
    unfold pr at hp ⊢
    rw [← mvW_and hl hok, mvW_wt hok] at hp
    exact hp
  · exact keep_code h hn
theorem keep_times {p q : List Int} (hp : permOk p = true) (hq : permOk q = true) (h1 : keepB p = true) (h2 : keepB q = true) : keepB (tmL p q) = true := by
  obtain ⟨lp, op⟩ := permOk_ok hp
  obtain ⟨lq, oq⟩ := permOk_ok hq
  refine keep_of ((permOk_iff _).2 ⟨tmTo_length _ _ _, tmL_ok op oq⟩) fun m hm => ?_
  rw [mvW_tm lp op lq oq]
  exact keep_code h2 (mvW_lt op _) (keep_all h1 hm)
theorem mvW_nt {p : List Int} (hl : p.length = 24) (h : okTo p 24) {n : Nat} (hn : n < 16777216) : mvW p (mvW (tnL p) n) = n := by
  have ht := tnL_ok hl h
  apply word_ext (mvW_lt h _) hn
  intro j hj
  have h1 := mvW_goes h (mvW (tnL p) n) (goes_lt ht hj)
  rw [goes_tnL hl h hj, mvW_goes ht n hj] at h1
  exact h1
theorem keep_turn {p : List Int} (h : keepB p = true) : keepB (tnL p) = true := by
  obtain ⟨hl, hok⟩ := permOk_ok (keep_perm h)
  have ht := tnL_ok hl hok
  refine keep_of ((permOk_iff _).2 ⟨tnTo_length _ _, ht⟩) fun m hm => ?_
  rw [← keep_iff h (mvW_lt ht _), mvW_nt hl hok (code_lt hm)]
  exact code_in m
theorem ext24 {a b : List Int} (ha : a.length = 24) (hb : b.length = 24) (h : ∀ i, i < 24 → a.getD i 0 = b.getD i 0) : a = b := by
  apply List.ext_getElem (by rw [ha, hb])
  intro i h1 h2
  have := h i (by omega)
  simp only [List.getD, List.getElem?_eq_getElem h1, List.getElem?_eq_getElem h2, Option.getD_some] at this
  exact this
/-- Turned twice is not turned. -/
theorem tn_tn {p : List Int} (hl : p.length = 24) (h : okTo p 24) : tnL (tnL p) = p := by
  have ht := tnL_ok hl h
  have htl : (tnL p).length = 24 := tnTo_length p 24
  have key : ∀ i, i < 24 → goes (tnL (tnL p)) i = goes p i := fun i hi => by
    have := tnL_goes ht (goes_lt h hi)
    rw [tnL_goes h hi] at this
    exact this
  have hq := tnL_ok htl ht
  have hql : (tnL (tnL p)).length = 24 := tnTo_length _ 24
  generalize tnL (tnL p) = q at *
  refine ext24 hql hl fun i hi => ?_
  rw [goes_get hq hi, goes_get h hi, key i hi]
theorem keep_turned {p : List Int} (hp : permOk p = true) : keepB (tnL p) = keepB p := by
  obtain ⟨hl, hok⟩ := permOk_ok hp
  rw [Bool.eq_iff_iff]
  constructor
  · intro h
    have := keep_turn h
    rw [tn_tn hl hok] at this
    exact this
  · exact keep_turn

end Go.Proofs.Yteedbejlbjfkgaa
