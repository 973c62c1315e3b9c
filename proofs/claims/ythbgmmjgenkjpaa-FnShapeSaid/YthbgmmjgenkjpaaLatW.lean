/- Plain laws: the vectors that the program makes lie in the lattice; inner products; contracts of LatticeInner and LatticeIn as the laws use them. -/
import Derived.Test.YthbgmmjgenkjpaaLatLin
import Derived.Test.YthbgmmjgenkjpaaWFour
import Derived.Test.YthbgmmjgenkjpaaWThree
import Derived.Test.YthbgmmjgenkjpaaWOctV
import Derived.Test.YthbgmmjgenkjpaaWInner
import Derived.Test.YthbgmmjgenkjpaaWAdd
import Derived.Test.YthbgmmjgenkjpaaWCode
set_option linter.unusedVariables false
namespace Go.Proofs.Ythbgmmjgenkjpaa
open Res

theorem rep_get (n i : Nat) (a : Int) (h : i < n) : (List.replicate n a).getD i 0 = a := by simp [List.getD, h]
theorem zeros_sum : sumTo (List.replicate 24 0) 24 = 0 := by decide +kernel
theorem zeros_dot : dotTo (List.replicate 24 0) (List.replicate 24 0) 24 = 0 := by decide +kernel
theorem getD_set (l : List Int) (p i : Nat) (a : Int) (hp : p < l.length) : (l.set p a).getD i 0 = if i = p then a else l.getD i 0 := by
  simp only [List.getD, List.getElem?_set]
  by_cases h : p = i
  · subst h
    simp [hp]
  · simp [h, show ¬ i = p from fun e => h e.symm]
theorem sum_set (l : List Int) (p : Nat) (a : Int) (hp : p < l.length) (k : Nat) : sumTo (l.set p a) k = if p < k then sumTo l k - l.getD p 0 + a else sumTo l k := by
  induction k with
  | zero => simp [sumTo]
  | succ k ih =>
    simp only [sumTo]
    rw [ih, getD_set l p k a hp]
    by_cases h1 : k = p
    · subst h1
      rw [if_neg (by omega), if_pos rfl, if_pos (by omega)]
      omega
    · rw [if_neg h1]
      by_cases h2 : p < k
      · rw [if_pos h2, if_pos (by omega)]
        omega
      · rw [if_neg h2, if_neg (by omega)]
theorem dot_set (l : List Int) (p : Nat) (a : Int) (hp : p < l.length) (k : Nat) : dotTo (l.set p a) (l.set p a) k = if p < k then dotTo l l k - l.getD p 0 * l.getD p 0 + a * a else dotTo l l k := by
  induction k with
  | zero => simp [dotTo]
  | succ k ih =>
    simp only [dotTo]
    rw [ih, getD_set l p k a hp]
    by_cases h1 : k = p
    · subst h1
      rw [if_neg (by omega), if_pos rfl, if_pos (by omega)]
      omega
    · rw [if_neg h1]
      by_cases h2 : p < k
      · rw [if_pos h2, if_pos (by omega)]
        omega
      · rw [if_neg h2, if_neg (by omega)]
theorem vecOk_of {l : List Int} (hl : l.length = 24) (h : ∀ i, i < 24 → -100000 ≤ l.getD i 0 ∧ l.getD i 0 ≤ 100000) : vecOk l = true := by
  unfold vecOk
  rw [Bool.and_eq_true, List.all_eq_true, beq_iff_eq]
  refine ⟨fun x hx => ?_, hl⟩
  obtain ⟨i, hi, rfl⟩ := List.mem_iff_getElem.1 hx
  rw [inB_iff]
  have := h i (by omega)
  rw [getD_elem l i hi] at this
  exact this
theorem latOk_of {l : List Int} (h1 : vecOk l = true) (h2 : LatP l) : latOk l = true := by
  unfold latOk
  rw [h1, (latB_iff l).2 h2]
  rfl
theorem latP_of {l : List Int} (h : latOk l = true) : LatP l := by
  unfold latOk at h
  rw [Bool.and_eq_true] at h
  exact (latB_iff l).1 h.2
theorem vec_of_lat {l : List Int} (h : latOk l = true) : vecOk l = true := by
  unfold latOk at h
  rw [Bool.and_eq_true] at h
  exact h.1

/-- Multiples of 4. -/
theorem latP_quads {l : List Int} (h : ∀ i, i < 24 → l.getD i 0 % 4 = 0) (hs : sumTo l 24 % 8 = 0) : LatP l := by
  have h0 := h 0 (by omega)
  refine ⟨?_, ?_, ?_⟩
  · intro i hi
    have := h i hi
    omega
  · have e : aw l = 0 := by
      apply word_ext (aw_lt l) (by omega)
      intro i hi
      have := h i hi
      rw [aw_bit l i hi, Nat.zero_testBit, decide_eq_false_iff_not]
      omega
    rw [e]
    exact codeB_zero
  · omega

def fours (f : Bool) : Int := if f then -4 else 4
theorem fours_cases (f : Bool) : fours f = 4 ∨ fours f = -4 := by cases f; exact .inl rfl; exact .inr rfl
theorem fours_not (f : Bool) : fours (!f) = -fours f := by cases f <;> rfl
theorem fourL_get (p q : Nat) (f s : Bool) (hp : p < 24) (hq : q < 24) (i : Nat) (hi : i < 24) : (fourL p q f s).getD i 0 = if i = q then fours s else if i = p then fours f else 0 := by
  unfold fourL
  rw [getD_set _ _ _ _ (by simp; omega), getD_set _ _ _ _ (by simp; omega)]
  have : (List.replicate 24 (0 : Int)).getD i 0 = 0 := rep_get 24 i 0 hi
  rw [this]
  rfl
theorem fourL_facts {p q : Nat} (f s : Bool) (hp : p < 24) (hq : q < 24) (hpq : p ≠ q) :
    latOk (fourL p q f s) = true ∧ dotTo (fourL p q f s) (fourL p q f s) 24 = 32 := by
  have g := fourL_get p q f s hp hq
  have c1 := fours_cases f
  have c2 := fours_cases s
  have hz : ((List.replicate 24 (0 : Int)).set p (fours f)).getD q 0 = 0 := by
    rw [getD_set _ _ _ _ (by simp; omega), if_neg (fun e => hpq e.symm)]
    exact rep_get 24 q 0 hq
  have hz2 : (List.replicate 24 (0 : Int)).getD p 0 = 0 := rep_get 24 p 0 hp
  constructor
  · refine latOk_of (vecOk_of (fourL_length p q f s) ?_) (latP_quads ?_ ?_)
    · intro i hi
      rw [g i hi]
      split
      · omega
      · split <;> omega
    · intro i hi
      rw [g i hi]
      split
      · omega
      · split <;> omega
    · have e : sumTo (fourL p q f s) 24 = fours f + fours s := by
        show sumTo (((List.replicate 24 0).set p (fours f)).set q (fours s)) 24 = _
        rw [sum_set _ _ _ (by simp; omega), if_pos hq, hz, sum_set _ _ _ (by simp; omega), if_pos hp, hz2, zeros_sum]
        omega
      rw [e]
      omega
  · show dotTo (((List.replicate 24 0).set p (fours f)).set q (fours s)) (((List.replicate 24 0).set p (fours f)).set q (fours s)) 24 = 32
    rw [dot_set _ _ _ (by simp; omega), if_pos hq, hz, dot_set _ _ _ (by simp; omega), if_pos hp, hz2, zeros_dot]
    rcases c1 with h | h <;> rcases c2 with h' | h' <;> rw [h, h'] <;> decide
/-- The sum with the opposite. -/
theorem fourL_minus {p q : Nat} (f s : Bool) (hp : p < 24) (hq : q < 24) (hpq : p ≠ q) : addTo (fourL p q f s) (fourL p q (!f) (!s)) 24 = List.replicate 24 0 := by
  apply List.ext_getElem (by simp [addTo])
  intro i h1 h2
  have hi : i < 24 := by simpa using h2
  have e : (addTo (fourL p q f s) (fourL p q (!f) (!s)) 24)[i] = (fourL p q f s).getD i 0 + (fourL p q (!f) (!s)).getD i 0 := by simp [addTo]
  refine e.trans ?_
  rw [fourL_get p q f s hp hq i hi, fourL_get p q (!f) (!s) hp hq i hi, fours_not, fours_not]
  simp only [List.getElem_replicate]
  split
  · omega
  · split <;> omega
theorem zeros_ok : vecOk (List.replicate 24 0) = true := by decide +kernel

theorem onesBut_get (p : Nat) (hp : p < 24) (i : Nat) (hi : i < 24) : (onesBut p).getD i 0 = if i = p then -3 else 1 := by
  unfold onesBut
  rw [getD_set _ _ _ _ (by simp; omega)]
  have : (List.replicate 24 (1 : Int)).getD i 0 = 1 := rep_get 24 i 1 hi
  rw [this]
theorem ones_sum : sumTo (List.replicate 24 1) 24 = 24 := by decide +kernel
theorem ones_dot : dotTo (List.replicate 24 1) (List.replicate 24 1) 24 = 24 := by decide +kernel
theorem onesBut_lat {p : Nat} (hp : p < 24) : LatP (onesBut p) := by
  have g := onesBut_get p hp
  have h1 : (List.replicate 24 (1 : Int)).getD p 0 = 1 := rep_get 24 p 1 hp
  have g0 := g 0 (by omega)
  have o : (onesBut p).getD 0 0 % 2 = 1 := by rw [g0]; split <;> omega
  refine ⟨?_, ?_, ?_⟩
  · intro i hi
    rw [o, g i hi]
    split <;> omega
  · have e : aw (onesBut p) = 0 := by
      apply word_ext (aw_lt _) (by omega)
      intro i hi
      rw [aw_bit _ i hi, Nat.zero_testBit, decide_eq_false_iff_not, g i hi]
      split <;> omega
    rw [e]
    exact codeB_zero
  · rw [o]
    unfold onesBut
    rw [sum_set _ _ _ (by simp; omega), if_pos hp, h1, ones_sum]
    omega
theorem onesBut_dot {p : Nat} (hp : p < 24) : dotTo (onesBut p) (onesBut p) 24 = 32 := by
  have h1 : (List.replicate 24 (1 : Int)).getD p 0 = 1 := rep_get 24 p 1 hp
  unfold onesBut
  rw [dot_set _ _ _ (by simp; omega), if_pos hp, h1, ones_dot]
  decide
theorem threeL_facts {n p : Nat} (hn : n < 16777216) (hc : codeB n = true) (hp : p < 24) : latOk (threeL n p) = true ∧ dotTo (threeL n p) (threeL n p) 24 = 32 := by
  constructor
  · refine latOk_of (vecOk_of (flipV_length _ _) ?_) (latP_flip hn hc (onesBut_lat hp))
    intro i hi
    have := onesBut_bd p i
    unfold threeL
    rw [flipV_get _ _ _ hi]
    split <;> omega
  · unfold threeL
    rw [dot_flip _ _ 24 (Nat.le_refl _), onesBut_dot hp]

theorem placesTo_nodup (n k : Nat) : (placesTo n k).Nodup := by
  induction k with
  | zero => simp [placesTo]
  | succ k ih =>
    cases h : n.testBit k
    · rw [placesTo_miss h]; exact ih
    · rw [placesTo_hit h, List.nodup_append]
      refine ⟨ih, by simp, ?_⟩
      intro a ha b hb
      have := (placesTo_mem.1 ha).1
      have hb' : b = k := by simpa using hb
      omega
/-- The numbers after the first k places. -/
theorem ocTo_get (n m : Nat) (k : Nat) (hk : k ≤ (places n).length) (i : Nat) (hi : i < 24) :
    ((ocTo n m k).getD i 0 = 0 ∧ ∀ j (hj : j < (places n).length), j < k → (places n)[j] ≠ i) ∨ (((ocTo n m k).getD i 0 = 2 ∨ (ocTo n m k).getD i 0 = -2) ∧ ∃ j, ∃ hj : j < (places n).length, j < k ∧ (places n)[j] = i) := by
  induction k with
  | zero =>
    refine .inl ⟨?_, fun j _ h => by omega⟩
    exact rep_get 24 i 0 hi
  | succ k ih =>
    have hkl : k < (places n).length := by omega
    have hp := (places_get hkl).1
    have e : (places n).getD k 0 = (places n)[k] := by simp [List.getD, hkl]
    have hg : (ocTo n m (k + 1)).getD i 0 = if i = (places n)[k] then 2 - 4 * ((bitN m k : Nat) : Int) else (ocTo n m k).getD i 0 := by
      show ((ocTo n m k).set ((places n).getD k 0) (2 - 4 * ((bitN m k : Nat) : Int))).getD i 0 = _
      rw [e, getD_set _ _ _ _ (by rw [ocTo_length]; exact hp)]
    have hb := bitN_le m k
    by_cases h : i = (places n)[k]
    · refine .inr ⟨?_, k, hkl, by omega, h.symm⟩
      rw [hg, if_pos h]
      omega
    · rw [hg, if_neg h]
      rcases ih (by omega) with ⟨h1, h2⟩ | ⟨h1, j, hj, hjk, hji⟩
      · refine .inl ⟨h1, fun j hj hjk => ?_⟩
        by_cases hjk' : j = k
        · subst hjk'
          exact fun e => h e.symm
        · exact h2 j hj (by omega)
      · exact .inr ⟨h1, j, hj, by omega, hji⟩
theorem ocTo_fresh (n m k : Nat) (hk : k < (places n).length) : (ocTo n m k).getD ((places n)[k]) 0 = 0 := by
  rcases ocTo_get n m k (by omega) ((places n)[k]) (places_get hk).1 with ⟨h, -⟩ | ⟨-, j, hj, hjk, hji⟩
  · exact h
  · have hnd : (places n).Nodup := placesTo_nodup n 24
    have := (List.getElem_inj hnd).1 hji
    omega
theorem ocTo_sum (n m k : Nat) (hk : k ≤ (places n).length) : sumTo (ocTo n m k) 24 = 2 * (k : Int) - 4 * (wtTo m k : Nat) ∧ dotTo (ocTo n m k) (ocTo n m k) 24 = 4 * (k : Int) := by
  induction k with
  | zero => exact ⟨zeros_sum, zeros_dot⟩
  | succ k ih =>
    have hkl : k < (places n).length := by omega
    have hp := (places_get hkl).1
    have e : (places n).getD k 0 = (places n)[k] := by simp [List.getD, hkl]
    obtain ⟨i1, i2⟩ := ih (by omega)
    have hf := ocTo_fresh n m k hkl
    have hb := bitN_le m k
    have ew : wtTo m (k + 1) = wtTo m k + bitN m k := rfl
    rw [ew]
    constructor
    · show sumTo ((ocTo n m k).set ((places n).getD k 0) (2 - 4 * ((bitN m k : Nat) : Int))) 24 = _
      rw [e, sum_set _ _ _ (by rw [ocTo_length]; exact hp), if_pos hp, hf, i1]
      omega
    · show dotTo ((ocTo n m k).set ((places n).getD k 0) (2 - 4 * ((bitN m k : Nat) : Int))) ((ocTo n m k).set ((places n).getD k 0) (2 - 4 * ((bitN m k : Nat) : Int))) 24 = _
      rw [e, dot_set _ _ _ (by rw [ocTo_length]; exact hp), if_pos hp, hf, i2]
      have : bitN m k = 0 ∨ bitN m k = 1 := by omega
      rcases this with h | h <;> rw [h] <;> omega
theorem sgn_even : allB (fun s => Nat.beq (wtTo (sgn s) 8 % 2) 0) 7 0 = true := by decide +kernel
theorem octV_get {n s : Nat} (h8 : wt n = 8) (i : Nat) (hi : i < 24) : (n.testBit i = false ∧ (octV n s).getD i 0 = 0) ∨ (n.testBit i = true ∧ ((octV n s).getD i 0 = 2 ∨ (octV n s).getD i 0 = -2)) := by
  have hl : (places n).length = 8 := by rw [places_length, h8]
  rcases ocTo_get n (sgn s) 8 (by omega) i hi with ⟨h, h2⟩ | ⟨h, j, hj, -, hji⟩
  · refine .inl ⟨?_, h⟩
    cases hb : n.testBit i
    · rfl
    · obtain ⟨j, hj, hji⟩ := List.mem_iff_getElem.1 (places_mem.2 ⟨hi, hb⟩)
      exact absurd hji (h2 j hj (by omega))
  · refine .inr ⟨?_, h⟩
    rw [← hji]
    exact (places_get hj).2
theorem octV_facts {n s : Nat} (hn : n < 16777216) (hc : codeB n = true) (h8 : wt n = 8) (hs : s < 128) : latOk (octV n s) = true ∧ dotTo (octV n s) (octV n s) 24 = 32 := by
  have hl : (places n).length = 8 := by rw [places_length, h8]
  obtain ⟨s1, s2⟩ := ocTo_sum n (sgn s) 8 (by omega)
  have g := octV_get (s := s) h8
  have he := Nat.eq_of_beq_eq_true (allB_all 7 sgn_even s hs)
  have g0 : (octV n s).getD 0 0 % 2 = 0 := by
    rcases g 0 (by omega) with ⟨-, h⟩ | ⟨-, h | h⟩ <;> rw [h] <;> rfl
  refine ⟨latOk_of (vecOk_of (ocTo_length _ _ _) ?_) ⟨?_, ?_, ?_⟩, s2⟩
  · intro i hi
    rcases g i hi with ⟨-, h⟩ | ⟨-, h | h⟩ <;> rw [h] <;> omega
  · intro i hi
    rw [g0]
    rcases g i hi with ⟨-, h⟩ | ⟨-, h | h⟩ <;> rw [h] <;> rfl
  · have e : aw (octV n s) = n := by
      apply word_ext (aw_lt _) hn
      intro i hi
      rw [aw_bit _ i hi]
      rcases g i hi with ⟨hb, h⟩ | ⟨hb, h | h⟩ <;> rw [h, hb] <;> decide
    rw [e]
    exact hc
  · rw [g0]
    unfold octV
    rw [s1]
    omega
/-- The places with a number. -/
theorem octV_word {n s : Nat} (hn : n < 16777216) (h8 : wt n = 8) : wordP (fun i => decide ((octV n s).getD i 0 ≠ 0)) 24 = n := by
  apply word_ext (wordP_24 _) hn
  intro i hi
  rw [wordP_bit]
  simp only [hi, decide_true, Bool.true_and]
  rcases octV_get (s := s) h8 i hi with ⟨hb, h⟩ | ⟨hb, h | h⟩ <;> rw [h, hb] <;> decide

end Go.Proofs.Ythbgmmjgenkjpaa

namespace Go.Proofs.Ythbgmmjgenkjpaa
open Go.RowKit Res

theorem inner_c (l m : List Int) (y : Int) (h1 : vecOk l = true) (h2 : vecOk m = true) (hy : dotTo l m 24 = y) :
    ∀ a c b d w, Reads .i64 w a l → Reads .i64 w b m → Calls Try.prog 18 #[.slice a l.length c, .slice b m.length d] w fun e w' => e = .returned (.tuple #[.int .i64 y, .bool true]) ∧ Below w.heap.size w w' :=
  fun a c b d w hr hs => by rw [← hy]; exact implLatticeInner_ok a b c d l m w hr hs h1 h2
theorem latIn_c (l : List Int) (t : Bool) (hl : l.length ≤ 24) (h : latOk l = t) :
    ∀ a c w, Reads .i64 w a l → Calls Try.prog 20 #[.slice a l.length c] w fun e w' => e = .returned (.bool t) ∧ Below w.heap.size w w' :=
  fun a c w hr => by rw [← h]; exact implLatticeIn_any a c l w (by omega) hr

theorem dot_nonneg (l : List Int) (k : Nat) : 0 ≤ dotTo l l k := by
  induction k with
  | zero => simp [dotTo]
  | succ k ih =>
    simp only [dotTo]
    have := sq_pos (l.getD k 0)
    omega
/-- Are the first k numbers noughts? -/
def zTo (l : List Int) : Nat → Bool
  | 0 => true
  | k + 1 => zTo l k && (l.getD k 0 == 0)
theorem dot_zero (l : List Int) (k : Nat) : (dotTo l l k == 0) = zTo l k := by
  induction k with
  | zero => simp [dotTo, zTo]
  | succ k ih =>
    simp only [zTo]
    rw [← ih, Bool.eq_iff_iff, Bool.and_eq_true, beq_iff_eq, beq_iff_eq, beq_iff_eq]
    simp only [dotTo]
    have h1 := dot_nonneg l k
    have h2 := sq_pos (l.getD k 0)
    constructor
    · intro h
      have h3 : l.getD k 0 * l.getD k 0 = 0 := by omega
      refine ⟨by omega, ?_⟩
      rcases Int.mul_eq_zero.1 h3 with h | h <;> exact h
    · rintro ⟨h3, h4⟩
      rw [h3, h4]
      rfl
theorem le_of_sq {x y : Int} (hy : 0 ≤ y) (h : x * x ≤ y * y) : x ≤ y := by
  by_cases hxy : x ≤ y
  · exact hxy
  · exfalso
    have h1 : 0 ≤ x - y - 1 := by omega
    have h2 : 0 ≤ x + y := by omega
    have h3 := Int.mul_nonneg h1 h2
    grind
theorem cauchy_step {W U V a b : Int} (hU : 0 ≤ U) (hV : 0 ≤ V) (h : W * W ≤ U * V) : (W + a * b) * (W + a * b) ≤ (U + a * a) * (V + b * b) := by
  have ha := sq_pos a
  have hb := sq_pos b
  have h1 : 2 * (W * (a * b)) ≤ U * (b * b) + V * (a * a) := by
    apply le_of_sq
    · have := Int.mul_nonneg hU hb
      have := Int.mul_nonneg hV ha
      omega
    · have h2 := sq_pos (U * (b * b) - V * (a * a))
      have h3 : 0 ≤ (U * V - W * W) * ((a * b) * (a * b)) := Int.mul_nonneg (by omega) (sq_pos (a * b))
      grind
  grind
theorem cauchy (l m : List Int) (k : Nat) : dotTo l m k * dotTo l m k ≤ dotTo l l k * dotTo m m k := by
  induction k with
  | zero => simp [dotTo]
  | succ k ih =>
    simp only [dotTo]
    exact cauchy_step (dot_nonneg l k) (dot_nonneg m k) ih
theorem addTo_get (l m : List Int) (i : Nat) (hi : i < 24) : (addTo l m 24).getD i 0 = l.getD i 0 + m.getD i 0 := by
  rw [getD_elem _ i (by rw [addTo_length]; exact hi)]
  simp [addTo]
theorem addTo_comm (l m : List Int) : addTo m l 24 = addTo l m 24 := by
  unfold addTo
  apply List.map_congr_left
  intro i _
  omega
theorem dot_add (l m : List Int) (k : Nat) (hk : k ≤ 24) : dotTo (addTo l m 24) (addTo l m 24) k = dotTo l l k + dotTo m m k + 2 * dotTo l m k := by
  induction k with
  | zero => rfl
  | succ k ih =>
    simp only [dotTo]
    rw [ih (by omega), addTo_get l m k (by omega)]
    grind
theorem flip_vec {l : List Int} (n : Nat) (h : vecOk l = true) : vecOk (flipV l n) = true := by
  refine vecOk_of (flipV_length l n) fun i hi => ?_
  have := vecOk_get h i
  rw [flipV_get l n i hi]
  split <;> omega
theorem flip_lat {l : List Int} {n : Nat} (h : vecOk l = true) (hn : n < 16777216) (hc : codeB n = true) : latOk (flipV l n) = latOk l := by
  unfold latOk
  rw [flip_vec n h, h, latB_flip (vecOk_length h) hn hc]

end Go.Proofs.Ythbgmmjgenkjpaa
