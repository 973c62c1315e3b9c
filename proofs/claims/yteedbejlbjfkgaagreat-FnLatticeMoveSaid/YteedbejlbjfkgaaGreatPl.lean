/- Plain laws, laid together. -/
import Derived.WalkKit
import Derived.PlainAid
import Derived.Laws.BitsAllLaws
/- Plain laws on the bits of int: on numbers that are not negative and less than 2^63 Go's operators are those of Nat. -/
set_option linter.unusedVariables false
namespace Go.Proofs.YteedbejlbjfkgaaGreat
open Go.RowKit

theorem bit_ofInt (a : Nat) (ha : a < 9223372036854775808) : (BitVec.ofInt 64 (a : Int)).toNat = a := by
  rw [BitVec.ofInt_natCast, BitVec.toNat_ofNat]; exact Nat.mod_eq_of_lt (by omega)
theorem wrap_nat (a : Nat) (ha : a < 9223372036854775808) : IntKind.i64.wrap (a : Int) = (a : Int) := by
  rw [IntKind.wrap_i64]; omega
theorem i64_and (a b : Nat) (ha : a < 9223372036854775808) (hb : b < 9223372036854775808) : bits .and .i64 (a : Int) (b : Int) = ((a &&& b : Nat) : Int) := by
  show IntKind.i64.wrap ((BitVec.ofInt 64 (a : Int) &&& BitVec.ofInt 64 (b : Int)).toNat : Int) = _
  rw [BitVec.toNat_and, bit_ofInt a ha, bit_ofInt b hb]
  exact wrap_nat _ (Nat.lt_of_le_of_lt Nat.and_le_left ha)
theorem i64_or (a b : Nat) (ha : a < 9223372036854775808) (hb : b < 9223372036854775808) : bits .or .i64 (a : Int) (b : Int) = ((a ||| b : Nat) : Int) := by
  show IntKind.i64.wrap ((BitVec.ofInt 64 (a : Int) ||| BitVec.ofInt 64 (b : Int)).toNat : Int) = _
  rw [BitVec.toNat_or, bit_ofInt a ha, bit_ofInt b hb]
  exact wrap_nat _ (Nat.or_lt_two_pow (n := 63) ha hb)
theorem i64_xor (a b : Nat) (ha : a < 9223372036854775808) (hb : b < 9223372036854775808) : bits .xor .i64 (a : Int) (b : Int) = ((a ^^^ b : Nat) : Int) := by
  show IntKind.i64.wrap ((BitVec.ofInt 64 (a : Int) ^^^ BitVec.ofInt 64 (b : Int)).toNat : Int) = _
  rw [BitVec.toNat_xor, bit_ofInt a ha, bit_ofInt b hb]
  exact wrap_nat _ (Nat.xor_lt_two_pow (n := 63) ha hb)
theorem wrap64_nat (a : Nat) (ha : a < 9223372036854775808) : wrap64 (a : Int) = (a : Int) :=
  IntWalk.wrap64_in _ ⟨by omega, by omega⟩
theorem wrap64_pow (k : Nat) (hk : k ≤ 62) : wrap64 ((2 : Int) ^ k) = ((2 ^ k : Nat) : Int) := by
  have : (2 : Nat) ^ k ≤ 2 ^ 62 := Nat.pow_le_pow_right (by omega) hk
  rw [show ((2 : Int) ^ k) = ((2 ^ k : Nat) : Int) by push_cast; rfl]
  exact wrap64_nat _ (by omega)
/-- Go's rest, where the number may be negative. -/
theorem tmod_cases (n m : Int) (_hm : 0 < m) : (0 ≤ n ∧ n.tmod m = n % m) ∨ (n < 0 ∧ n.tmod m = -((-n) % m)) := by
  by_cases h : 0 ≤ n
  · exact .inl ⟨h, Int.tmod_eq_emod_of_nonneg h⟩
  · refine .inr ⟨by omega, ?_⟩
    have e : n.tmod m = -((-n).tmod m) := by rw [Int.neg_tmod]; omega
    rw [e, Int.tmod_eq_emod_of_nonneg (by omega)]
theorem xor_nonneg {x y : Int} (hx : 0 ≤ x) (hx2 : x < 9223372036854775808) (hy : 0 ≤ y) (hy2 : y < 9223372036854775808) : 0 ≤ bits .xor .i64 x y := by
  obtain ⟨a, rfl⟩ := Int.eq_ofNat_of_zero_le hx
  obtain ⟨b, rfl⟩ := Int.eq_ofNat_of_zero_le hy
  rw [i64_xor a b (by omega) (by omega)]
  exact Int.natCast_nonneg _
/-- A rest is from 0 to n - 1. -/
theorem tmod_range {x n : Int} (hx : 0 ≤ x) (hn : 1 ≤ n) : 0 ≤ x.tmod n ∧ x.tmod n < n := by
  rw [Int.tmod_eq_emod_of_nonneg hx]
  exact ⟨Int.emod_nonneg _ (by omega), Int.emod_lt_of_pos _ (by omega)⟩
theorem wrapU_nat (a : Nat) (ha : a < 18446744073709551616) : IntKind.u64.wrap (a : Int) = (a : Int) := by
  rw [IntKind.wrap_u64]; omega
end Go.Proofs.YteedbejlbjfkgaaGreat

/- Plain laws on residues modulo 23: no program in sight. -/
namespace Go.Proofs.YteedbejlbjfkgaaGreat.Res

/-- Is a number within bounds? -/
def inB (n lo hi : Int) : Bool := decide (lo ≤ n) && decide (n ≤ hi)
theorem inB_true {n lo hi : Int} (h1 : lo ≤ n) (h2 : n ≤ hi) : inB n lo hi = true := by simp [inB, h1, h2]
theorem inB_low {n lo hi : Int} (h1 : n < lo) : inB n lo hi = false := by simp [inB]; omega
theorem inB_high {n lo hi : Int} (h1 : hi < n) : inB n lo hi = false := by simp [inB]; omega
theorem inB_iff {n lo hi : Int} : inB n lo hi = true ↔ lo ≤ n ∧ n ≤ hi := by simp [inB]

/-- Is a number the square of one from 1 to 22 modulo 23? -/
def sq (n : Int) : Bool := (List.range 22).any fun k => (((k : Int) + 1) * ((k : Int) + 1)) % 23 == n

theorem sq_of (n : Int) (k : Nat) (hk : k < 22) (h : (((k : Int) + 1) * ((k : Int) + 1)) % 23 = n) : sq n = true := by
  unfold sq
  rw [List.any_eq_true]
  exact ⟨k, by simpa using hk, by simpa using h⟩

theorem sq_not (n : Int) (h : ∀ k : Nat, k < 22 → ¬ (((k : Int) + 1) * ((k : Int) + 1)) % 23 = n) : sq n = false := by
  unfold sq
  rw [List.any_eq_false]
  intro k hk
  simpa using h k (by simpa using hk)

/-- 1 over a residue: the number from 1 to 22 whose product with it is 1 modulo 23. -/
def invN (n : Nat) : Nat := ((List.range 22).find? fun x => n * (x + 1) % 23 == 1).getD 0 + 1

theorem invN_law : ∀ n, n < 22 → (n + 1) * invN (n + 1) % 23 = 1 ∧ 1 ≤ invN (n + 1) ∧ invN (n + 1) ≤ 22 := by decide +kernel
theorem invN_one : ∀ n, n < 22 → ∀ x, x < 22 → (n + 1) * (x + 1) % 23 = 1 → invN (n + 1) = x + 1 := by decide +kernel

theorem invN_spec {n : Nat} (h0 : 1 ≤ n) (h1 : n ≤ 22) : n * invN n % 23 = 1 ∧ 1 ≤ invN n ∧ invN n ≤ 22 := by
  have := invN_law (n - 1) (by omega)
  rwa [show n - 1 + 1 = n by omega] at this
theorem invN_eq {n x : Nat} (h0 : 1 ≤ n) (h1 : n ≤ 22) (h2 : 1 ≤ x) (h3 : x ≤ 22) (h : n * x % 23 = 1) : invN n = x := by
  have := invN_one (n - 1) (by omega) (x - 1) (by omega)
  rw [show n - 1 + 1 = n by omega, show x - 1 + 1 = x by omega] at this
  exact this h

/-- The generator i after the places below k. -/
def genTo (i : Nat) : Nat → Nat
  | 0 => 8388608
  | k + 1 => if sq (((k : Int) - (i : Int)) % 23) then genTo i k ||| 2 ^ k else genTo i k
def gen (i : Nat) : Nat := genTo i 23

/-- The same by addition. -/
def genATo (i : Nat) : Nat → Nat
  | 0 => 8388608
  | k + 1 => if sq (((k : Int) - (i : Int)) % 23) then genATo i k + 2 ^ k else genATo i k

theorem genTo_le : ∀ i, i < 23 → ∀ k, k < 24 → genTo i k ≤ 16777215 := by decide +kernel
theorem genATo_eq : ∀ i, i < 23 → ∀ k, k < 24 → genATo i k = genTo i k := by decide +kernel

end Go.Proofs.YteedbejlbjfkgaaGreat.Res

/- Plain laws on words of 24 places: no program in sight. -/
namespace Go.Proofs.YteedbejlbjfkgaaGreat.Res

/-- The places of a word below k, in ascending order. -/
def placesTo (w : Nat) : Nat → List Nat
  | 0 => []
  | k + 1 => if w.testBit k then placesTo w k ++ [k] else placesTo w k
def places (w : Nat) : List Nat := placesTo w 24

/-- How many places below k a word has. -/
def wtTo (w : Nat) : Nat → Nat
  | 0 => 0
  | k + 1 => wtTo w k + w / 2 ^ k % 2
def wt (w : Nat) : Nat := wtTo w 24

theorem testBit_div (w k : Nat) : w.testBit k = decide (w / 2 ^ k % 2 = 1) := Nat.testBit_eq_decide_div_mod_eq

theorem placesTo_hit {w k : Nat} (h : w.testBit k = true) : placesTo w (k + 1) = placesTo w k ++ [k] := by simp [placesTo, h]
theorem placesTo_miss {w k : Nat} (h : w.testBit k = false) : placesTo w (k + 1) = placesTo w k := by simp [placesTo, h]

theorem placesTo_length (w k : Nat) : (placesTo w k).length ≤ k := by
  induction k with
  | zero => simp [placesTo]
  | succ k ih =>
    by_cases h : w.testBit k = true
    · rw [placesTo_hit h]; simp; exact ih
    · rw [placesTo_miss (by simpa using h)]; omega

theorem placesTo_mem {w k p : Nat} : p ∈ placesTo w k ↔ p < k ∧ w.testBit p = true := by
  induction k with
  | zero => simp [placesTo]
  | succ k ih =>
    by_cases h : w.testBit k = true
    · rw [placesTo_hit h]
      simp only [List.mem_append, ih, List.mem_singleton]
      constructor
      · rintro (⟨a, b⟩ | rfl)
        · exact ⟨by omega, b⟩
        · exact ⟨by omega, h⟩
      · rintro ⟨a, b⟩
        by_cases e : p = k
        · exact .inr e
        · exact .inl ⟨by omega, b⟩
    · have h' : w.testBit k = false := by simpa using h
      rw [placesTo_miss h', ih]
      constructor
      · rintro ⟨a, b⟩; exact ⟨by omega, b⟩
      · rintro ⟨a, b⟩
        refine ⟨?_, b⟩
        by_cases e : p = k
        · subst e; rw [h'] at b; cases b
        · omega

theorem wtTo_le (w k : Nat) : wtTo w k ≤ k := by
  induction k with
  | zero => simp [wtTo]
  | succ k ih => simp only [wtTo]; omega

theorem placesTo_wt (w k : Nat) : (placesTo w k).length = wtTo w k := by
  induction k with
  | zero => simp [placesTo, wtTo]
  | succ k ih =>
    simp only [wtTo]
    by_cases h : w.testBit k = true
    · rw [placesTo_hit h, List.length_append, ih]
      rw [testBit_div, decide_eq_true_eq] at h
      simp [h]
    · rw [placesTo_miss (by simpa using h), ih]
      rw [testBit_div] at h
      simp at h
      omega

theorem places_mem {w p : Nat} : p ∈ places w ↔ p < 24 ∧ w.testBit p = true := placesTo_mem
theorem places_length (w : Nat) : (places w).length = wt w := placesTo_wt w 24
theorem wt_le (w : Nat) : wt w ≤ 24 := wtTo_le w 24

/-- A place of the list of places. -/
theorem places_get {w k : Nat} (h : k < (places w).length) : (places w)[k] < 24 ∧ w.testBit ((places w)[k]) = true :=
  places_mem.1 (List.getElem_mem h)

/-- The bit of a place. -/
def bitN (w k : Nat) : Nat := w / 2 ^ k % 2
theorem bitN_le (w k : Nat) : bitN w k ≤ 1 := by unfold bitN; omega
theorem bitN_true {w k : Nat} (h : w.testBit k = true) : bitN w k = 1 := by
  rw [testBit_div, decide_eq_true_eq] at h; exact h
theorem bitN_false {w k : Nat} (h : w.testBit k = false) : bitN w k = 0 := by
  rw [testBit_div, decide_eq_false_iff_not] at h
  unfold bitN; omega
theorem bitN_test_true {w k : Nat} (h : w.testBit k = true) : (((bitN w k : Nat) : Int) == 1) = true := by rw [bitN_true h]; rfl
theorem bitN_test_false {w k : Nat} (h : w.testBit k = false) : (((bitN w k : Nat) : Int) == 1) = false := by rw [bitN_false h]; rfl

/-- Words with the same places are the same. -/
theorem word_ext {a b : Nat} (ha : a < 16777216) (hb : b < 16777216) (h : ∀ i, i < 24 → a.testBit i = b.testBit i) : a = b := by
  apply Nat.eq_of_testBit_eq
  intro i
  by_cases hi : i < 24
  · exact h i hi
  · rw [Nat.testBit_lt_two_pow (Nat.lt_of_lt_of_le ha (Nat.pow_le_pow_right (n := 2) (by omega) (show 24 ≤ i by omega))),
      Nat.testBit_lt_two_pow (Nat.lt_of_lt_of_le hb (Nat.pow_le_pow_right (n := 2) (by omega) (show 24 ≤ i by omega)))]

end Go.Proofs.YteedbejlbjfkgaaGreat.Res

/- Checking a statement at all numbers below a power of two, by halves. -/
namespace Go.Proofs.YteedbejlbjfkgaaGreat.Res

/-- Does p hold at the 2^k numbers from lo on? -/
def allB (p : Nat → Bool) : Nat → Nat → Bool
  | 0, lo => p lo
  | k + 1, lo => allB p k lo && allB p k (lo + 2 ^ k)

theorem allB_get {p : Nat → Bool} {k lo : Nat} (h : allB p k lo = true) : ∀ i, lo ≤ i → i < lo + 2 ^ k → p i = true := by
  induction k generalizing lo with
  | zero =>
    intro i h1 h2
    obtain rfl : i = lo := by simp at h2; omega
    exact h
  | succ k ih =>
    intro i h1 h2
    simp only [allB, Bool.and_eq_true] at h
    rw [Nat.pow_succ] at h2
    by_cases hi : i < lo + 2 ^ k
    · exact ih h.1 i h1 hi
    · exact ih h.2 i (by omega) (by omega)

theorem allB_all {p : Nat → Bool} (k : Nat) (h : allB p k 0 = true) : ∀ i, i < 2 ^ k → p i = true :=
  fun i hi => allB_get h i (Nat.zero_le _) (by omega)

end Go.Proofs.YteedbejlbjfkgaaGreat.Res

/- A plain law: the library's count of ones, by adding fields side by side, is the number of places of a word. -/
namespace Go.Proofs.YteedbejlbjfkgaaGreat.Res

theorem land_split (k a b c d : Nat) (ha : a < 2 ^ k) (hc : c < 2 ^ k) : (a + 2 ^ k * b) &&& (c + 2 ^ k * d) = (a &&& c) + 2 ^ k * (b &&& d) := by
  have h1 : ((a + 2 ^ k * b) &&& (c + 2 ^ k * d)) % 2 ^ k = a &&& c := by
    rw [Nat.and_mod_two_pow, Nat.add_mul_mod_self_left, Nat.add_mul_mod_self_left, Nat.mod_eq_of_lt ha, Nat.mod_eq_of_lt hc]
  have h2 : ((a + 2 ^ k * b) &&& (c + 2 ^ k * d)) / 2 ^ k = b &&& d := by
    rw [Nat.and_div_two_pow, Nat.add_mul_div_left _ _ (Nat.two_pow_pos k), Nat.add_mul_div_left _ _ (Nat.two_pow_pos k), Nat.div_eq_of_lt ha, Nat.div_eq_of_lt hc, Nat.zero_add, Nat.zero_add]
  generalize ((a + 2 ^ k * b) &&& (c + 2 ^ k * d)) = z at *
  rw [← h1, ← h2, Nat.mod_add_div]

/-- The first two stages. -/
def pop1 (x m : Nat) : Nat := (x / 2 &&& m) + (x &&& m)
def pop2 (x m : Nat) : Nat := (x / 4 &&& m) + (x &&& m)
/-- The others. -/
def pop3 (x : Nat) : Nat := (x / 16 + x) &&& 1085102592571150095
def pop4 (x : Nat) : Nat := x + x / 256
def pop5 (x : Nat) : Nat := x + x / 65536
def pop6 (x : Nat) : Nat := x + x / 4294967296
def pop (x : Nat) : Nat := pop6 (pop5 (pop4 (pop3 (pop2 (pop1 x 6148914691236517205) 3689348814741910323)))) &&& 127

theorem pop1_low (a : Nat) (ha : a < 4096) (c : Nat) (hc : c < 2) : (a / 2 + 2048 * c) &&& 1365 = a / 2 &&& 1365 := by
  have h := allB_all 12 (p := fun a => Nat.beq ((a / 2 + 2048) &&& 1365) (a / 2 &&& 1365)) (by decide +kernel) a ha
  rcases (show c = 0 ∨ c = 1 by omega) with rfl | rfl
  · rfl
  · exact Nat.eq_of_beq_eq_true h
theorem pop2_low (a : Nat) (ha : a < 4096) (c : Nat) (hc : c < 4) : (a / 4 + 1024 * c) &&& 819 = a / 4 &&& 819 := by
  have h1 := allB_all 12 (p := fun a => Nat.beq ((a / 4 + 1024) &&& 819) (a / 4 &&& 819)) (by decide +kernel) a ha
  have h2 := allB_all 12 (p := fun a => Nat.beq ((a / 4 + 2048) &&& 819) (a / 4 &&& 819)) (by decide +kernel) a ha
  have h3 := allB_all 12 (p := fun a => Nat.beq ((a / 4 + 3072) &&& 819) (a / 4 &&& 819)) (by decide +kernel) a ha
  rcases (show c = 0 ∨ c = 1 ∨ c = 2 ∨ c = 3 by omega) with rfl | rfl | rfl | rfl
  · rfl
  · exact Nat.eq_of_beq_eq_true h1
  · exact Nat.eq_of_beq_eq_true h2
  · exact Nat.eq_of_beq_eq_true h3
theorem pop1_bd (a : Nat) (ha : a < 4096) : pop1 a 1365 < 4096 := by
  have h := allB_all 12 (p := fun a => Nat.blt (pop1 a 1365) 4096) (by decide +kernel) a ha
  simpa using h

theorem pop1_split (a b M : Nat) (ha : a < 4096) : pop1 (a + 4096 * b) (1365 + 4096 * M) = pop1 a 1365 + 4096 * pop1 b M := by
  unfold pop1
  have e : (a + 4096 * b) / 2 = (a / 2 + 2048 * (b % 2)) + 2 ^ 12 * (b / 2) := by omega
  rw [e, show (1365 + 4096 * M) = 1365 + 2 ^ 12 * M from rfl, land_split 12 _ _ _ _ (by omega) (by decide), pop1_low a ha (b % 2) (by omega),
    show a + 4096 * b = a + 2 ^ 12 * b from rfl, land_split 12 _ _ _ _ ha (by decide)]
  omega
theorem pop2_split (a b M : Nat) (ha : a < 4096) : pop2 (a + 4096 * b) (819 + 4096 * M) = pop2 a 819 + 4096 * pop2 b M := by
  unfold pop2
  have e : (a + 4096 * b) / 4 = (a / 4 + 1024 * (b % 4)) + 2 ^ 12 * (b / 4) := by omega
  rw [e, show (819 + 4096 * M) = 819 + 2 ^ 12 * M from rfl, land_split 12 _ _ _ _ (by omega) (by decide), pop2_low a ha (b % 4) (by omega),
    show a + 4096 * b = a + 2 ^ 12 * b from rfl, land_split 12 _ _ _ _ ha (by decide)]
  omega

theorem land_low (k b c d : Nat) (hb : b < 2 ^ k) (hc : c < 2 ^ k) : b &&& (c + 2 ^ k * d) = b &&& c := by
  have := land_split k b 0 c d hb hc
  simpa using this

/-- The three fields of four bits added. -/
def nib (x : Nat) : Nat := x % 16 + x / 16 % 16 + x / 256
theorem pop12 (a : Nat) (ha : a < 4096) : nib (pop2 (pop1 a 1365) 819) = wtTo a 12 ∧ pop2 (pop1 a 1365) 819 % 16 < 5 ∧ pop2 (pop1 a 1365) 819 / 16 % 16 < 5 ∧ pop2 (pop1 a 1365) 819 / 256 < 5 := by
  have h := allB_all 12 (p := fun a => decide (nib (pop2 (pop1 a 1365) 819) = wtTo a 12 ∧ pop2 (pop1 a 1365) 819 % 16 < 5 ∧ pop2 (pop1 a 1365) 819 / 16 % 16 < 5 ∧ pop2 (pop1 a 1365) 819 / 256 < 5)) (by decide +kernel) a ha
  exact of_decide_eq_true h

def popEndB (p0 p1 p2 q0 q1 q2 : Nat) : Bool :=
  Nat.beq (pop6 (pop5 (pop4 (pop3 ((p0 + 16 * p1 + 256 * p2) + 4096 * (q0 + 16 * q1 + 256 * q2))))) &&& 127) (p0 + p1 + p2 + q0 + q1 + q2)
theorem popEnd (p0 p1 p2 q0 q1 q2 : Nat) (h0 : p0 < 5) (h1 : p1 < 5) (h2 : p2 < 5) (k0 : q0 < 5) (k1 : q1 < 5) (k2 : q2 < 5) :
    pop6 (pop5 (pop4 (pop3 ((p0 + 16 * p1 + 256 * p2) + 4096 * (q0 + 16 * q1 + 256 * q2))))) &&& 127 = p0 + p1 + p2 + q0 + q1 + q2 := by
  have h := allB_all 14 (p := fun i => popEndB (i % 5) (i / 5 % 5) (i / 25 % 5) (i / 125 % 5) (i / 625 % 5) (i / 3125)) (by decide +kernel)
    (p0 + 5 * p1 + 25 * p2 + 125 * q0 + 625 * q1 + 3125 * q2) (by omega)
  have e0 : (p0 + 5 * p1 + 25 * p2 + 125 * q0 + 625 * q1 + 3125 * q2) % 5 = p0 := by omega
  have e1 : (p0 + 5 * p1 + 25 * p2 + 125 * q0 + 625 * q1 + 3125 * q2) / 5 % 5 = p1 := by omega
  have e2 : (p0 + 5 * p1 + 25 * p2 + 125 * q0 + 625 * q1 + 3125 * q2) / 25 % 5 = p2 := by omega
  have e3 : (p0 + 5 * p1 + 25 * p2 + 125 * q0 + 625 * q1 + 3125 * q2) / 125 % 5 = q0 := by omega
  have e4 : (p0 + 5 * p1 + 25 * p2 + 125 * q0 + 625 * q1 + 3125 * q2) / 625 % 5 = q1 := by omega
  have e5 : (p0 + 5 * p1 + 25 * p2 + 125 * q0 + 625 * q1 + 3125 * q2) / 3125 = q2 := by omega
  simp only [e0, e1, e2, e3, e4, e5] at h
  exact Nat.eq_of_beq_eq_true h

theorem wtTo_split (a b : Nat) (ha : a < 4096) : ∀ k, wtTo (a + 4096 * b) (12 + k) = wtTo a 12 + wtTo b k := by
  have low : ∀ j, j ≤ 12 → wtTo (a + 4096 * b) j = wtTo a j := by
    intro j
    induction j with
    | zero => simp [wtTo]
    | succ j ih =>
      intro hj
      show wtTo (a + 4096 * b) j + (a + 4096 * b) / 2 ^ j % 2 = wtTo a j + a / 2 ^ j % 2
      rw [ih (by omega)]
      congr 1
      rw [show 4096 = 2 ^ j * 2 ^ (12 - j) by rw [← Nat.pow_add, show j + (12 - j) = 12 by omega], Nat.mul_assoc, Nat.add_mul_div_left _ _ (Nat.two_pow_pos j),
        show 12 - j = (12 - j - 1) + 1 by omega, Nat.pow_succ]
      generalize 2 ^ (12 - j - 1) = t
      rw [show t * 2 * b = 2 * (t * b) by rw [Nat.mul_comm t 2, Nat.mul_assoc]]
      omega
  intro k
  induction k with
  | zero => exact low 12 (Nat.le_refl _)
  | succ k ih =>
    show wtTo (a + 4096 * b) (12 + k) + (a + 4096 * b) / 2 ^ (12 + k) % 2 = wtTo a 12 + (wtTo b k + b / 2 ^ k % 2)
    rw [ih, Nat.pow_add, ← Nat.div_div_eq_div_mul, show (2 : Nat) ^ 12 = 4096 from rfl, show (a + 4096 * b) / 4096 = b by omega]
    omega

theorem pop_eq (x : Nat) (hx : x < 16777216) : pop x = wt x := by
  have hx' : x = x % 4096 + 4096 * (x / 4096) := by omega
  generalize ha : x % 4096 = a at hx'
  generalize hb : x / 4096 = b at hx'
  have ha' : a < 4096 := by omega
  have hb' : b < 4096 := by omega
  subst hx'
  have e1 : pop1 (a + 4096 * b) 6148914691236517205 = pop1 a 1365 + 4096 * pop1 b 1365 := by
    rw [show 6148914691236517205 = 1365 + 4096 * 1501199875790165 from rfl, pop1_split a b _ ha']
    congr 2
    unfold pop1
    rw [show 1501199875790165 = 1365 + 2 ^ 12 * 366503875925 from rfl, land_low 12 _ _ _ (by omega) (by decide), land_low 12 _ _ _ hb' (by decide)]
  have h1 := pop1_bd a ha'
  have h2 := pop1_bd b hb'
  have e2 : pop2 (pop1 a 1365 + 4096 * pop1 b 1365) 3689348814741910323 = pop2 (pop1 a 1365) 819 + 4096 * pop2 (pop1 b 1365) 819 := by
    rw [show 3689348814741910323 = 819 + 4096 * 900719925474099 from rfl, pop2_split _ _ _ h1]
    congr 2
    unfold pop2
    rw [show 900719925474099 = 819 + 2 ^ 12 * 219902325555 from rfl, land_low 12 _ _ _ (by omega) (by decide), land_low 12 _ _ _ h2 (by decide)]
  obtain ⟨n1, p0, p1, p2⟩ := pop12 a ha'
  obtain ⟨n2, q0, q1, q2⟩ := pop12 b hb'
  have hw : wt (a + 4096 * b) = wtTo a 12 + wtTo b 12 := wtTo_split a b ha' 12
  unfold pop
  rw [e1, e2, hw, ← n1, ← n2]
  generalize pop2 (pop1 a 1365) 819 = A at *
  generalize pop2 (pop1 b 1365) 819 = B at *
  have := popEnd (A % 16) (A / 16 % 16) (A / 256) (B % 16) (B / 16 % 16) (B / 256) p0 p1 p2 q0 q1 q2
  rw [show A % 16 + 16 * (A / 16 % 16) + 256 * (A / 256) = A by omega, show B % 16 + 16 * (B / 16 % 16) + 256 * (B / 256) = B by omega] at this
  rw [this]
  unfold nib
  omega

end Go.Proofs.YteedbejlbjfkgaaGreat.Res

/- Plain models of the hexacode and the code: no program in sight. -/
namespace Go.Proofs.YteedbejlbjfkgaaGreat.Res

/-- The product of digits. -/
def tms (a b : Nat) : Nat := if a = 0 ∨ b = 0 then 0 else 1 + (a + b - 2) % 3
theorem tms_le (a b : Nat) : tms a b ≤ 3 := by unfold tms; split <;> omega

/-- A digit of a row of the hexacode. -/
def hexF (a b c x : Nat) : Nat := tms a (tms x x) ^^^ tms b x ^^^ c
def hexRow (a b c : Nat) : List Nat := [a, b, c, hexF a b c 1, hexF a b c 2, hexF a b c 3]
theorem hexF_le {a b c x : Nat} (hc : c ≤ 3) : hexF a b c x ≤ 3 := by
  have h1 := tms_le a (tms x x)
  have h2 := tms_le b x
  have h3 : tms a (tms x x) ^^^ tms b x < 2 ^ 2 := Nat.xor_lt_two_pow (by omega) (by omega)
  have h4 : tms a (tms x x) ^^^ tms b x ^^^ c < 2 ^ 2 := Nat.xor_lt_two_pow h3 (by omega)
  unfold hexF
  omega

def hexTo (a b c k : Nat) : List Nat := [a, b, c] ++ (List.range k).map (fun j => hexF a b c (j + 1))
theorem hexTo_zero (a b c : Nat) : hexTo a b c 0 = [a, b, c] := rfl
theorem hexTo_succ (a b c k : Nat) : hexTo a b c (k + 1) = hexTo a b c k ++ [hexF a b c (k + 1)] := by simp [hexTo, List.range_succ]
theorem hexTo_all (a b c : Nat) : hexTo a b c 3 = hexRow a b c := rfl
theorem hexTo_length (a b c k : Nat) : (hexTo a b c k).length = 3 + k := by simp [hexTo]; omega
theorem hexRow_length (a b c : Nat) : (hexRow a b c).length = 6 := rfl
theorem hexRow_le {a b c : Nat} (ha : a ≤ 3) (hb : b ≤ 3) (hc : c ≤ 3) (i : Nat) : (hexRow a b c).getD i 0 ≤ 3 := by
  have h1 := hexF_le (a := a) (b := b) (x := 1) hc
  have h2 := hexF_le (a := a) (b := b) (x := 2) hc
  have h3 := hexF_le (a := a) (b := b) (x := 3) hc
  match i with
  | 0 => exact ha
  | 1 => exact hb
  | 2 => exact hc
  | 3 => exact h1
  | 4 => exact h2
  | 5 => exact h3
  | i + 6 => simp [hexRow]

/-- The column with a score, a parity and a place of row 0. -/
def fillT : List Nat := [0, 12, 10, 6, 15, 3, 5, 9, 14, 2, 4, 8, 1, 13, 11, 7]
def fill (s p f : Nat) : Nat := fillT.getD (8 * p + 4 * f + s) 0

theorem fill_lt : ∀ s, s < 4 → ∀ p, p < 2 → ∀ f, f < 2 → fill s p f < 16 := by decide +kernel

/-- The score of a column. -/
def scTo (n : Nat) : Nat → Nat
  | 0 => 0
  | r + 1 => if n.testBit r then scTo n r ^^^ r else scTo n r
def sc (n : Nat) : Nat := scTo n 4

/-- The word of a message. -/
def cdRow (m : Nat) : List Nat := hexRow (m % 4) (m / 4 % 4) (m / 16 % 4)
def cdTop (m : Nat) : Nat → Nat
  | 0 => 0
  | c + 1 => cdTop m c ^^^ bitN m (7 + c)
/-- Columns 1 to c. -/
def cdTo (m : Nat) : Nat → Nat
  | 0 => 0
  | c + 1 => cdTo m c + fill ((cdRow m).getD (c + 1) 0) (bitN m 6) (bitN m (7 + c)) * 2 ^ (4 * (c + 1))
def code (m : Nat) : Nat := cdTo m 5 + fill ((cdRow m).getD 0 0) (bitN m 6) (cdTop m 5 ^^^ bitN m 6)

theorem cdRow_length (m : Nat) : (cdRow m).length = 6 := rfl
theorem cdRow_le (m i : Nat) : (cdRow m).getD i 0 ≤ 3 := hexRow_le (by omega) (by omega) (by omega) i
theorem cdTop_le (m c : Nat) : cdTop m c < 2 := by
  induction c with
  | zero => simp [cdTop]
  | succ c ih =>
    have h := bitN_le m (7 + c)
    have : cdTop m c ^^^ bitN m (7 + c) < 2 ^ 1 := Nat.xor_lt_two_pow ih (by omega)
    simpa [cdTop] using this
theorem cdTo_lt (m c : Nat) : cdTo m c < 16 * 2 ^ (4 * c) := by
  induction c with
  | zero => simp [cdTo]
  | succ c ih =>
    have h1 := fill_lt ((cdRow m).getD (c + 1) 0) (by have := cdRow_le m (c + 1); omega) (bitN m 6) (by have := bitN_le m 6; omega) (bitN m (7 + c)) (by have := bitN_le m (7 + c); omega)
    simp only [cdTo]
    rw [show 4 * (c + 1) = 4 * c + 4 by omega, Nat.pow_add]
    generalize 2 ^ (4 * c) = t at *
    generalize fill ((cdRow m).getD (c + 1) 0) (bitN m 6) (bitN m (7 + c)) = u at *
    have : u * (t * 2 ^ 4) ≤ 15 * (t * 2 ^ 4) := Nat.mul_le_mul_right _ (by omega)
    omega

theorem code_all : allB (fun m => Nat.blt (code m) 16777216) 12 0 = true := by decide +kernel
theorem code_lt {m : Nat} (h : m < 4096) : code m < 16777216 := by
  have := allB_all 12 code_all m h
  simpa using this

end Go.Proofs.YteedbejlbjfkgaaGreat.Res

/- Plain laws on permutations of the places: lists of 24 different places. -/
namespace Go.Proofs.YteedbejlbjfkgaaGreat.Res

/-- All numbers are places, and no two are the same. -/
def diff (l : List Int) : Bool := l.all (fun n => inB n 0 23) && decide l.Nodup
/-- Is a list a permutation? -/
def permOk (l : List Int) : Bool := l.length == 24 && diff l

/-- The word of the first k places of a list. -/
def mk (l : List Int) : Nat → Nat
  | 0 => 0
  | k + 1 => mk l k ||| 2 ^ (l.getD k 0).toNat

theorem mk_bit (l : List Int) (k q : Nat) : (mk l k).testBit q = true ↔ ∃ i, i < k ∧ (l.getD i 0).toNat = q := by
  induction k with
  | zero => simp [mk]
  | succ k ih =>
    show (mk l k ||| 2 ^ (l.getD k 0).toNat).testBit q = true ↔ _
    rw [Nat.testBit_or, Bool.or_eq_true, ih, Nat.testBit_two_pow, decide_eq_true_eq]
    constructor
    · rintro (⟨i, hi, e⟩ | e)
      · exact ⟨i, by omega, e⟩
      · exact ⟨k, by omega, e⟩
    · rintro ⟨i, hi, e⟩
      by_cases hk : i = k
      · subst hk; exact .inr e
      · exact .inl ⟨i, by omega, e⟩

/-- The first k numbers are places, all different. -/
def okTo (l : List Int) (k : Nat) : Prop := (∀ i, i < k → 0 ≤ l.getD i 0 ∧ l.getD i 0 ≤ 23) ∧ ∀ i j, i < j → j < k → l.getD i 0 ≠ l.getD j 0
theorem okTo_zero (l : List Int) : okTo l 0 := ⟨fun _ h => by omega, fun _ _ _ h => by omega⟩
theorem mk_lt {l : List Int} {k : Nat} (h : okTo l k) : mk l k < 2 ^ 24 := by
  induction k with
  | zero => simp [mk]
  | succ k ih =>
    have h1 := ih ⟨fun i hi => h.1 i (by omega), fun i j hi hj => h.2 i j hi (by omega)⟩
    have h2 := h.1 k (by omega)
    exact Nat.or_lt_two_pow h1 (Nat.pow_lt_pow_right (by omega) (by omega))
theorem okTo_step {l : List Int} {k : Nat} (h : okTo l k) (h0 : 0 ≤ l.getD k 0) (h1 : l.getD k 0 ≤ 23) (hb : (mk l k).testBit (l.getD k 0).toNat = false) : okTo l (k + 1) := by
  refine ⟨fun i hi => ?_, fun i j hi hj => ?_⟩
  · by_cases e : i = k
    · subst e; exact ⟨h0, h1⟩
    · exact h.1 i (by omega)
  · by_cases e : j = k
    · subst e
      intro he
      have : (mk l j).testBit (l.getD j 0).toNat = true := (mk_bit l j _).2 ⟨i, hi, by rw [he]⟩
      rw [this] at hb
      cases hb
    · exact h.2 i j hi (by omega)
theorem getD_get {l : List Int} {i : Nat} (h : i < l.length) : l.getD i 0 = l[i] := by simp [List.getD, h]
theorem okTo_iff (l : List Int) : okTo l l.length ↔ diff l = true := by
  unfold okTo diff
  rw [Bool.and_eq_true, List.all_eq_true, decide_eq_true_eq, List.nodup_iff_pairwise_ne, List.pairwise_iff_getElem]
  constructor
  · rintro ⟨h1, h2⟩
    refine ⟨fun x hx => ?_, fun i j hi hj hij => ?_⟩
    · obtain ⟨i, hi, rfl⟩ := List.getElem_of_mem hx
      have := h1 i hi
      rw [getD_get hi] at this
      exact inB_true this.1 this.2
    · have := h2 i j hij hj
      rw [getD_get hi, getD_get hj] at this
      exact this
  · rintro ⟨h1, h2⟩
    refine ⟨fun i hi => ?_, fun i j hij hj => ?_⟩
    · rw [getD_get hi]
      exact inB_iff.1 (h1 _ (List.getElem_mem hi))
    · rw [getD_get (show i < l.length by omega), getD_get hj]
      exact h2 i j (by omega) hj hij
theorem diff_out {l : List Int} {k : Nat} (hk : k < l.length) (h : inB (l.getD k 0) 0 23 = false) : diff l = false := by
  rw [Bool.eq_false_iff]
  intro hd
  have := ((okTo_iff l).2 hd).1 k hk
  rw [inB_true this.1 this.2] at h
  cases h
theorem diff_twice {l : List Int} {k : Nat} (hk : k < l.length) (h0 : 0 ≤ l.getD k 0) (h : okTo l k) (hb : (mk l k).testBit (l.getD k 0).toNat = true) : diff l = false := by
  rw [Bool.eq_false_iff]
  intro hd
  obtain ⟨i, hi, e⟩ := (mk_bit l k _).1 hb
  have hi0 := (h.1 i hi).1
  exact ((okTo_iff l).2 hd).2 i k hi hk (by omega)

/-- How many places a word has that gets one more. -/
theorem bitN_or {x p : Nat} (hp : x.testBit p = false) (k : Nat) : bitN (x ||| 2 ^ p) k = bitN x k + (if k = p then 1 else 0) := by
  have h : (x ||| 2 ^ p).testBit k = (x.testBit k || decide (p = k)) := by rw [Nat.testBit_or, Nat.testBit_two_pow]
  by_cases e : k = p
  · subst e
    rw [hp] at h
    rw [bitN_true (by simp), bitN_false hp, if_pos rfl]
  · rw [if_neg e, Nat.add_zero]
    rw [show decide (p = k) = false by simp; omega, Bool.or_false] at h
    cases hx : x.testBit k
    · rw [bitN_false (h.trans hx), bitN_false hx]
    · rw [bitN_true (h.trans hx), bitN_true hx]
theorem wtTo_or {x p : Nat} (hp : x.testBit p = false) (k : Nat) : wtTo (x ||| 2 ^ p) k = wtTo x k + (if p < k then 1 else 0) := by
  induction k with
  | zero => simp [wtTo]
  | succ k ih =>
    show wtTo (x ||| 2 ^ p) k + bitN (x ||| 2 ^ p) k = wtTo x k + bitN x k + _
    rw [ih, bitN_or hp]
    split <;> split <;> split <;> omega
theorem mk_wt {l : List Int} {k : Nat} (h : okTo l k) : wt (mk l k) = k := by
  induction k with
  | zero => show wt 0 = 0; decide
  | succ k ih =>
    have h' : okTo l k := ⟨fun i hi => h.1 i (by omega), fun i j hi hj => h.2 i j hi (by omega)⟩
    have h2 := h.1 k (by omega)
    have hb : (mk l k).testBit (l.getD k 0).toNat = false := by
      rw [Bool.eq_false_iff]
      intro hb
      obtain ⟨i, hi, e⟩ := (mk_bit l k _).1 hb
      have := (h.1 i (by omega)).1
      exact h.2 i k hi (by omega) (by omega)
    show wtTo (mk l k ||| _) 24 = _
    rw [wtTo_or hb, if_pos (by omega)]
    have := ih h'
    unfold wt at this
    rw [this]
theorem wtTo_full {x k : Nat} (h : wtTo x k = k) : ∀ i, i < k → x.testBit i = true := by
  induction k with
  | zero => intro i hi; omega
  | succ k ih =>
    have h1 : wtTo x k + bitN x k = k + 1 := h
    have h2 := wtTo_le x k
    have h3 := bitN_le x k
    intro i hi
    by_cases e : i = k
    · subst e
      cases hx : x.testBit i
      · rw [bitN_false hx] at h1; omega
      · rfl
    · exact ih (by omega) i (by omega)
/-- Different places fill the word just if there are 24 of them. -/
theorem mk_full {l : List Int} (h : okTo l l.length) : (mk l l.length == 16777215) = (l.length == 24) := by
  have hw := mk_wt h
  have hlt := mk_lt h
  rw [Bool.eq_iff_iff, beq_iff_eq, beq_iff_eq]
  constructor
  · intro e
    rw [e] at hw
    rw [← hw]
    decide
  · intro e
    rw [e] at hw hlt ⊢
    apply word_ext hlt (by decide)
    intro i hi
    rw [wtTo_full hw i hi]
    have : ∀ i, i < 24 → Nat.testBit 16777215 i = true := by decide
    rw [this i hi]

/-- A bit that is not there is added or laid: the same. -/
theorem add_bit {x p : Nat} (h : x.testBit p = false) : x + 2 ^ p = x ||| 2 ^ p := by
  have hlo : x % 2 ^ (p + 1) < 2 ^ p := by
    have h1 : x % 2 ^ (p + 1) = x % 2 ^ p + 2 ^ p * (x / 2 ^ p % 2) := by
      rw [Nat.pow_succ, Nat.mod_mul]
    rw [testBit_div, decide_eq_false_iff_not] at h
    rw [h1, show x / 2 ^ p % 2 = 0 by omega, Nat.mul_zero, Nat.add_zero]
    exact Nat.mod_lt _ (Nat.two_pow_pos p)
  have hx : x = 2 ^ (p + 1) * (x / 2 ^ (p + 1)) + x % 2 ^ (p + 1) := (Nat.div_add_mod _ _).symm
  generalize x / 2 ^ (p + 1) = hi at *
  generalize x % 2 ^ (p + 1) = lo at *
  have e1 : 2 ^ (p + 1) * hi + lo = 2 ^ (p + 1) * hi ||| lo := Nat.two_pow_add_eq_or_of_lt (Nat.lt_of_lt_of_le hlo (Nat.pow_le_pow_right (by omega) (by omega))) hi
  have e2 : 2 ^ p * 1 + lo = 2 ^ p * 1 ||| lo := Nat.two_pow_add_eq_or_of_lt hlo 1
  have e3 : 2 ^ (p + 1) * hi + (2 ^ p + lo) = 2 ^ (p + 1) * hi ||| (2 ^ p + lo) := Nat.two_pow_add_eq_or_of_lt (by rw [Nat.pow_succ]; omega) hi
  rw [Nat.mul_one] at e2
  rw [hx, e1, Nat.or_assoc, Nat.or_comm lo, ← e2, ← e3, ← e1]
  omega

end Go.Proofs.YteedbejlbjfkgaaGreat.Res

/- Plain laws: sorted lists, merged lists. -/
namespace Go.Proofs.YteedbejlbjfkgaaGreat.Res

def leI (x y : Int) : Bool := decide (x ≤ y)
/-- The numbers in ascending order. -/
def srt (l : List Int) : List Int := l.mergeSort leI
theorem leI_tr : ∀ a b c : Int, leI a b = true → leI b c = true → leI a c = true := fun a b c h1 h2 => by
  simp only [leI, decide_eq_true_eq] at *; omega
theorem leI_to : ∀ a b : Int, (leI a b || leI b a) = true := fun a b => by
  simp only [leI, Bool.or_eq_true, decide_eq_true_eq]; omega
theorem srt_length (l : List Int) : (srt l).length = l.length := List.length_mergeSort l
theorem srt_perm (l : List Int) : (srt l).Perm l := List.mergeSort_perm l leI
theorem srt_pair (l : List Int) : (srt l).Pairwise (fun a b => leI a b = true) := List.pairwise_mergeSort leI_tr leI_to l
theorem srt_uniq {l m : List Int} (h : m.Perm l) (hp : m.Pairwise (fun a b => leI a b = true)) : m = srt l := by
  refine List.Perm.eq_of_pairwise (le := fun a b => leI a b = true) (fun a b _ _ h1 h2 => ?_) hp (srt_pair l) (h.trans (srt_perm l).symm)
  simp only [leI, decide_eq_true_eq] at h1 h2
  omega
theorem srt_of_perm {l m : List Int} (h : l.Perm m) : srt l = srt m := srt_uniq ((srt_perm l).trans h) (srt_pair l)
theorem srt_short {l : List Int} (h : l.length < 2) : srt l = l := by
  match l, h with
  | [], _ => simp [srt]
  | [x], _ => simp [srt]
/-- Two sorted halves merged. -/
theorem srt_merge (l m : List Int) : List.merge (srt l) (srt m) leI = srt (l ++ m) := by
  refine srt_uniq ?_ ?_
  · exact (List.merge_perm_append (le := leI)).trans ((srt_perm l).append (srt_perm m))
  · exact List.pairwise_merge leI_tr leI_to _ _ (srt_pair l) (srt_pair m)
theorem drop_cons {l : List Int} {i : Nat} (h : i < l.length) : l.drop i = l.getD i 0 :: l.drop (i + 1) := by
  rw [List.drop_eq_getElem_cons h]
  simp [List.getD, h]
theorem merge_left {A B : List Int} {i k : Nat} (hi : i < A.length) (h : B.length ≤ k ∨ (k < B.length ∧ A.getD i 0 ≤ B.getD k 0)) :
    List.merge (A.drop i) (B.drop k) leI = A.getD i 0 :: List.merge (A.drop (i + 1)) (B.drop k) leI := by
  rw [drop_cons hi]
  rcases h with h | ⟨h, hle⟩
  · rw [List.drop_eq_nil_of_le h, List.merge_right, List.merge_right]
  · rw [drop_cons h]
    exact List.cons_merge_cons_pos _ _ _ (by simpa [leI] using hle)
theorem merge_right' {A B : List Int} {i k : Nat} (hk : k < B.length) (h : A.length ≤ i ∨ (i < A.length ∧ ¬ A.getD i 0 ≤ B.getD k 0)) :
    List.merge (A.drop i) (B.drop k) leI = B.getD k 0 :: List.merge (A.drop i) (B.drop (k + 1)) leI := by
  rw [drop_cons hk]
  rcases h with h | ⟨h, hle⟩
  · rw [List.drop_eq_nil_of_le h, List.nil_merge, List.nil_merge]
  · rw [drop_cons h]
    exact List.cons_merge_cons_neg _ _ _ (by simpa [leI] using hle)
theorem merge_end {A B : List Int} {i k : Nat} (hi : A.length ≤ i) (hk : B.length ≤ k) : List.merge (A.drop i) (B.drop k) leI = [] := by
  rw [List.drop_eq_nil_of_le hi, List.drop_eq_nil_of_le hk, List.merge_right]
/-- In order by places. -/
theorem srt_order {l : List Int} {i j : Nat} (hij : i < j) (hj : j < (srt l).length) : (srt l).getD i 0 ≤ (srt l).getD j 0 := by
  have h := List.pairwise_iff_getElem.1 (srt_pair l) i j (by omega) hj hij
  have hi : i < (srt l).length := by omega
  simp only [leI, decide_eq_true_eq] at h
  simpa [List.getD, hi, hj] using h

end Go.Proofs.YteedbejlbjfkgaaGreat.Res

/- Plain model: the octads in ascending order; the octads through places. -/
namespace Go.Proofs.YteedbejlbjfkgaaGreat.Res

/-- The octads among the first k words of the code. -/
def ocsTo (k : Nat) : List Int := (List.range k).flatMap fun m => if wt (code m) = 8 then [((code m : Nat) : Int)] else []
theorem ocsTo_hit {k : Nat} (h : wt (code k) = 8) : ocsTo (k + 1) = ocsTo k ++ [((code k : Nat) : Int)] := by simp [ocsTo, List.range_succ, h]
theorem ocsTo_miss {k : Nat} (h : wt (code k) ≠ 8) : ocsTo (k + 1) = ocsTo k := by simp [ocsTo, List.range_succ, h]
theorem ocsTo_length (k : Nat) : (ocsTo k).length ≤ k := by
  induction k with
  | zero => simp [ocsTo]
  | succ k ih =>
    by_cases h : wt (code k) = 8
    · rw [ocsTo_hit h]; simp; exact ih
    · rw [ocsTo_miss h]; omega
theorem ocsTo_mem {k : Nat} {x : Int} (h : x ∈ ocsTo k) : ∃ m, m < k ∧ wt (code m) = 8 ∧ x = ((code m : Nat) : Int) := by
  induction k with
  | zero => simp [ocsTo] at h
  | succ k ih =>
    by_cases hw : wt (code k) = 8
    · rw [ocsTo_hit hw, List.mem_append] at h
      rcases h with h | h
      · obtain ⟨m, h1, h2⟩ := ih h
        exact ⟨m, by omega, h2⟩
      · exact ⟨k, by omega, hw, by simpa using h⟩
    · rw [ocsTo_miss hw] at h
      obtain ⟨m, h1, h2⟩ := ih h
      exact ⟨m, by omega, h2⟩
/-- All octads in ascending order. -/
def ocs : List Int := srt (ocsTo 4096)
theorem ocs_length : ocs.length ≤ 4096 := by unfold ocs; rw [srt_length]; exact ocsTo_length 4096
theorem ocs_get {i : Nat} (h : i < ocs.length) : 0 ≤ ocs.getD i 0 ∧ ocs.getD i 0 ≤ 16777215 := by
  have hm : ocs[i] ∈ ocsTo 4096 := (srt_perm (ocsTo 4096)).mem_iff.1 (List.getElem_mem h)
  obtain ⟨m, h1, -, h3⟩ := ocsTo_mem hm
  have := code_lt h1
  have e : ocs.getD i 0 = ocs[i] := by simp [List.getD, h]
  rw [e, h3]
  omega
/-- Those of the first k numbers of a list that have all places of a word. -/
def wiS (S : List Int) (w k : Nat) : List Int := (List.range k).flatMap fun i => if (S.getD i 0).toNat &&& w = w then [S.getD i 0] else []
theorem wiS_hit {S : List Int} {w k : Nat} (h : (S.getD k 0).toNat &&& w = w) : wiS S w (k + 1) = wiS S w k ++ [S.getD k 0] := by
  unfold wiS
  rw [List.range_succ, List.flatMap_append, List.flatMap_singleton, if_pos h]
theorem wiS_miss {S : List Int} {w k : Nat} (h : (S.getD k 0).toNat &&& w ≠ w) : wiS S w (k + 1) = wiS S w k := by
  unfold wiS
  rw [List.range_succ, List.flatMap_append, List.flatMap_singleton, if_neg h, List.append_nil]
theorem wiS_length (S : List Int) (w k : Nat) : (wiS S w k).length ≤ k := by
  induction k with
  | zero => simp [wiS]
  | succ k ih =>
    by_cases h : (S.getD k 0).toNat &&& w = w
    · rw [wiS_hit h]; simp; exact ih
    · rw [wiS_miss h]; omega
def wiTo (w k : Nat) : List Int := wiS ocs w k
def wi (w : Nat) : List Int := wiTo w ocs.length
theorem wiTo_hit {w k : Nat} (h : (ocs.getD k 0).toNat &&& w = w) : wiTo w (k + 1) = wiTo w k ++ [ocs.getD k 0] := wiS_hit h
theorem wiTo_miss {w k : Nat} (h : (ocs.getD k 0).toNat &&& w ≠ w) : wiTo w (k + 1) = wiTo w k := wiS_miss h
theorem wiTo_length (w k : Nat) : (wiTo w k).length ≤ k := wiS_length ocs w k

end Go.Proofs.YteedbejlbjfkgaaGreat.Res

/- Plain laws: signs changed at the places of a word. -/
namespace Go.Proofs.YteedbejlbjfkgaaGreat.Res

/-- Numbers with the opposite ones at the places of a word that lie below k. -/
def flipTo (l : List Int) (w k : Nat) : List Int := (List.range l.length).map fun i => if decide (i < k) && w.testBit i then -(l.getD i 0) else l.getD i 0
/-- The first k of the numbers with the opposite ones at the places of a word. -/
def flipN (l : List Int) (w k : Nat) : List Int := (List.range k).map fun i => if w.testBit i then -(l.getD i 0) else l.getD i 0
def flipV (l : List Int) (w : Nat) : List Int := flipN l w 24

theorem flipTo_length (l : List Int) (w k : Nat) : (flipTo l w k).length = l.length := by simp [flipTo]
theorem flipN_length (l : List Int) (w k : Nat) : (flipN l w k).length = k := by simp [flipN]
theorem flipV_length (l : List Int) (w : Nat) : (flipV l w).length = 24 := flipN_length l w 24
theorem flipN_succ (l : List Int) (w k : Nat) : flipN l w (k + 1) = flipN l w k ++ [if w.testBit k then -(l.getD k 0) else l.getD k 0] := by simp [flipN, List.range_succ]
theorem flipTo_zero (l : List Int) (w : Nat) : flipTo l w 0 = l := by
  apply List.ext_getElem (by simp [flipTo])
  intro i h1 h2
  simp [flipTo, List.getD, h2]
theorem flipTo_get (l : List Int) (w k i : Nat) (hi : i < l.length) : (flipTo l w k).getD i 0 = if decide (i < k) && w.testBit i then -(l.getD i 0) else l.getD i 0 := by
  simp [flipTo, List.getD, hi]
theorem flipV_get (l : List Int) (w i : Nat) (hi : i < 24) : (flipV l w).getD i 0 = if w.testBit i then -(l.getD i 0) else l.getD i 0 := by
  simp [flipV, flipN, List.getD, hi]
theorem flipTo_all (l : List Int) (w : Nat) (hl : l.length = 24) : flipTo l w 24 = flipV l w := by
  unfold flipTo flipV flipN
  rw [hl]
  apply List.map_congr_left
  intro i hi
  have hi' : i < 24 := by simpa using hi
  simp [hi']

/-- Signs changed at each place of a list, one after the other. -/
def flipL (l : List Int) (ps : List Nat) : List Int := ps.foldl (fun s p => s.set p (-(s.getD p 0))) l
theorem flipL_snoc (l : List Int) (ps : List Nat) (p : Nat) : flipL l (ps ++ [p]) = (flipL l ps).set p (-((flipL l ps).getD p 0)) := by simp [flipL]
theorem flipL_length (l : List Int) (ps : List Nat) : (flipL l ps).length = l.length := by
  induction ps generalizing l with
  | nil => rfl
  | cons p ps ih =>
    show (flipL (l.set p _) ps).length = _
    rw [ih, List.length_set]

theorem flipTo_hit (l : List Int) {w k : Nat} (hk : k < l.length) (h : w.testBit k = true) : (flipTo l w k).set k (-((flipTo l w k).getD k 0)) = flipTo l w (k + 1) := by
  have e : (flipTo l w k).getD k 0 = l.getD k 0 := by rw [flipTo_get l w k k hk]; simp
  rw [e]
  apply List.ext_getElem (by simp [flipTo])
  intro i h1 h2
  rw [List.getElem_set]
  by_cases hik : k = i
  · subst hik
    simp [flipTo, h]
  · rw [if_neg hik]
    simp only [flipTo, List.getElem_map, List.getElem_range]
    by_cases h3 : i < k
    · simp [h3, show i < k + 1 by omega]
    · simp [h3, show ¬ i < k + 1 by omega]
theorem flipTo_miss (l : List Int) {w k : Nat} (h : w.testBit k = false) : flipTo l w k = flipTo l w (k + 1) := by
  unfold flipTo
  apply List.map_congr_left
  intro i _
  by_cases hik : k = i
  · subst hik
    simp [h]
  · by_cases h3 : i < k
    · simp [h3, show i < k + 1 by omega]
    · simp [h3, show ¬ i < k + 1 by omega]

theorem flipL_to (l : List Int) (w k : Nat) (hk : k ≤ l.length) : flipL l (placesTo w k) = flipTo l w k := by
  induction k with
  | zero => exact (flipTo_zero l w).symm
  | succ k ih =>
    cases h : w.testBit k
    · rw [placesTo_miss h, ih (by omega), flipTo_miss l h]
    · rw [placesTo_hit h, flipL_snoc, ih (by omega), flipTo_hit l (by omega) h]
theorem flipL_all (l : List Int) (w : Nat) (hl : l.length = 24) : flipL l (places w) = flipV l w := by
  unfold places
  rw [flipL_to l w 24 (by omega), flipTo_all l w hl]

/-- Sizes do not grow. -/
theorem flipL_bd {l : List Int} {B : Int} (hB : 0 ≤ B) (h : ∀ i, -B ≤ l.getD i 0 ∧ l.getD i 0 ≤ B) (ps : List Nat) (i : Nat) : -B ≤ (flipL l ps).getD i 0 ∧ (flipL l ps).getD i 0 ≤ B := by
  induction ps generalizing l with
  | nil => exact h i
  | cons p ps ih =>
    show -B ≤ (flipL (l.set p (-(l.getD p 0))) ps).getD i 0 ∧ _
    apply ih
    intro j
    by_cases hjl : j < l.length
    · by_cases hj : p = j
      · subst hj
        have := h p
        have e : (l.set p (-(l.getD p 0))).getD p 0 = -(l.getD p 0) := by simp [List.getD, hjl]
        rw [e]
        omega
      · have e : (l.set p (-(l.getD p 0))).getD j 0 = l.getD j 0 := by simp [List.getD, hj]
        rw [e]
        exact h j
    · have e : (l.set p (-(l.getD p 0))).getD j 0 = 0 := by simp [List.getD, hjl]
      rw [e]
      omega

end Go.Proofs.YteedbejlbjfkgaaGreat.Res

/- Plain model: is a word in the code? Scores and parities of its columns. -/
namespace Go.Proofs.YteedbejlbjfkgaaGreat.Res

def col (n c : Nat) : Nat := n / 2 ^ (4 * c) % 16
theorem col_lt (n c : Nat) : col n c < 16 := Nat.mod_lt _ (by omega)
theorem col_bit (n c r : Nat) (hr : r < 4) : (col n c).testBit r = n.testBit (4 * c + r) := by
  unfold col
  rw [show (16 : Nat) = 2 ^ 4 by decide, Nat.testBit_mod_two_pow, Nat.testBit_div_two_pow]
  simp only [hr, decide_true, Bool.true_and]
  congr 1
  omega

theorem scTo_hit {n k : Nat} (h : n.testBit k = true) : scTo n (k + 1) = scTo n k ^^^ k := by simp [scTo, h]
theorem scTo_miss {n k : Nat} (h : n.testBit k = false) : scTo n (k + 1) = scTo n k := by simp [scTo, h]
theorem scTo_lt (n k : Nat) (hk : k ≤ 4) : scTo n k < 4 := by
  induction k with
  | zero => simp [scTo]
  | succ k ih =>
    simp only [scTo]
    split
    · exact Nat.xor_lt_two_pow (n := 2) (ih (by omega)) (by omega)
    · exact ih (by omega)
theorem sc_lt (n : Nat) : sc n < 4 := scTo_lt n 4 (by omega)

/-- The scores of the first k columns. -/
def sclTo (n k : Nat) : List Nat := (List.range k).map fun c => sc (col n c)
def scl (n : Nat) : List Nat := sclTo n 6
theorem sclTo_succ (n k : Nat) : sclTo n (k + 1) = sclTo n k ++ [sc (col n k)] := by simp [sclTo, List.range_succ]
theorem sclTo_length (n k : Nat) : (sclTo n k).length = k := by simp [sclTo]
theorem scl_length (n : Nat) : (scl n).length = 6 := sclTo_length n 6
theorem scl_le (n i : Nat) : (scl n).getD i 0 ≤ 3 := by
  unfold scl sclTo
  by_cases hi : i < 6
  · have := sc_lt (col n i)
    simp [List.getD, hi]
    omega
  · simp [List.getD, hi]

/-- How many places of row 0 a word has in the first k columns. -/
def topS (n : Nat) : Nat → Nat
  | 0 => 0
  | c + 1 => topS n c + bitN n (4 * c)
theorem topS_le (n k : Nat) : topS n k ≤ k := by
  induction k with
  | zero => simp [topS]
  | succ k ih =>
    have := bitN_le n (4 * k)
    simp only [topS]
    omega
theorem bit_xor {a b : Nat} (ha : a < 2) (hb : b < 2) : a ^^^ b = (a + b) % 2 := by
  match a, b, ha, hb with
  | 0, 0, _, _ => rfl
  | 0, 1, _, _ => rfl
  | 1, 0, _, _ => rfl
  | 1, 1, _, _ => rfl
theorem topX_step (n k : Nat) : topS n k % 2 ^^^ bitN n (4 * k) = topS n (k + 1) % 2 := by
  have := bitN_le n (4 * k)
  rw [bit_xor (by omega) (by omega)]
  simp only [topS]
  omega

/-- Is a row in the hexacode? -/
def hexIs (l : List Nat) : Bool := l == hexRow (l.getD 0 0) (l.getD 1 0) (l.getD 2 0)
/-- Has a column the parity of row 0? -/
def parOk (n c : Nat) : Bool := wt (col n c) % 2 == topS n 6 % 2
/-- Is a word in the code? -/
def codeB (n : Nat) : Bool := (List.range 6).all (parOk n) && hexIs (scl n)
theorem codeB_par {n k : Nat} (hk : k < 6) (h : parOk n k = false) : codeB n = false := by
  have : (List.range 6).all (parOk n) = false := by
    rw [List.all_eq_false]
    exact ⟨k, by simpa using hk, by simp [h]⟩
  unfold codeB
  rw [this]
  rfl
theorem par_step {n k : Nat} (hn : (List.range k).all (parOk n) = true) (h : parOk n k = true) : (List.range (k + 1)).all (parOk n) = true := by
  rw [List.range_succ, List.all_append, hn]
  simp [h]

end Go.Proofs.YteedbejlbjfkgaaGreat.Res

/- Plain models of the line: sums of generators, moves. -/
namespace Go.Proofs.YteedbejlbjfkgaaGreat.Res

/-- The sum of the generators of the places below k of a word. -/
def lsTo (w : Nat) : Nat → Nat
  | 0 => 0
  | k + 1 => if w.testBit k then lsTo w k ^^^ gen k else lsTo w k
def lineSum (w : Nat) : Nat := lsTo w 23

theorem gen_le (i : Nat) (h : i < 23) : gen i < 2 ^ 24 := by
  have := genTo_le i h 23 (by omega)
  show genTo i 23 < 16777216
  omega

theorem lsTo_lt (w k : Nat) (hk : k ≤ 23) : lsTo w k < 2 ^ 24 := by
  induction k with
  | zero => simp [lsTo]
  | succ k ih =>
    simp only [lsTo]
    split
    · exact Nat.xor_lt_two_pow (ih (by omega)) (gen_le k (by omega))
    · exact ih (by omega)

theorem lsTo_hit {w k : Nat} (h : w.testBit k = true) : lsTo w (k + 1) = lsTo w k ^^^ gen k := by simp [lsTo, h]
theorem lsTo_miss {w k : Nat} (h : w.testBit k = false) : lsTo w (k + 1) = lsTo w k := by simp [lsTo, h]

/-- The sum over a list of places. -/
def xorL (l : List Nat) : Nat := l.foldl (fun s p => if p < 23 then s ^^^ gen p else s) 0
theorem xorL_snoc (l : List Nat) (p : Nat) : xorL (l ++ [p]) = if p < 23 then xorL l ^^^ gen p else xorL l := by simp [xorL]
theorem xorL_places (w k : Nat) (hk : k ≤ 23) : xorL (placesTo w k) = lsTo w k := by
  induction k with
  | zero => rfl
  | succ k ih =>
    cases h : w.testBit k
    · rw [placesTo_miss h, lsTo_miss h, ih (by omega)]
    · rw [placesTo_hit h, lsTo_hit h, xorL_snoc, if_pos (by omega), ih (by omega)]
theorem xorL_all (w : Nat) : xorL (places w) = lineSum w := by
  unfold places lineSum
  cases h : w.testBit 23
  · rw [placesTo_miss h, xorL_places w 23 (by omega)]
  · rw [placesTo_hit h, xorL_snoc, if_neg (by omega), xorL_places w 23 (by omega)]
theorem xorL_lt (l : List Nat) : xorL l < 2 ^ 24 := by
  have : ∀ (l : List Nat) (s : Nat), s < 2 ^ 24 → l.foldl (fun s p => if p < 23 then s ^^^ gen p else s) s < 2 ^ 24 := by
    intro l
    induction l with
    | nil => intro s hs; exact hs
    | cons p l ih =>
      intro s hs
      simp only [List.foldl_cons]
      apply ih
      split
      · exact Nat.xor_lt_two_pow hs (gen_le p (by omega))
      · exact hs
  exact this l 0 (by decide)
theorem take_snoc {α : Type} (l : List α) (k : Nat) (h : k < l.length) : l.take (k + 1) = l.take k ++ [l[k]] := List.take_succ_eq_append_getElem h
theorem xorL_hit {l : List Nat} {k : Nat} (h : k < l.length) (hp : l[k] < 23) : xorL (l.take (k + 1)) = xorL (l.take k) ^^^ gen l[k] := by
  rw [take_snoc l k h, xorL_snoc, if_pos hp]
theorem xorL_miss {l : List Nat} {k : Nat} (h : k < l.length) (hp : ¬ l[k] < 23) : xorL (l.take (k + 1)) = xorL (l.take k) := by
  rw [take_snoc l k h, xorL_snoc, if_neg hp]

/-- Are four numbers a move? -/
def mOk (a b c d : Int) : Bool := inB a 0 22 && inB b 0 22 && inB c 0 22 && inB d 0 22 && sq ((a * d - b * c) % 23)

/-- The moved place. -/
def lmTop (a b x : Nat) : Nat := if x = 23 then a else (a * x + b) % 23
def lm (a b c d x : Nat) : Nat := if lmTop c d x = 0 then 23 else lmTop a b x * invN (lmTop c d x) % 23

theorem lmTop_far {a b : Nat} : lmTop a b 23 = a := by simp [lmTop]
theorem lmTop_near {a b x : Nat} (h : x ≠ 23) : lmTop a b x = (a * x + b) % 23 := by simp [lmTop, h]
theorem lmTop_le {a b x : Nat} (ha : a ≤ 22) : lmTop a b x ≤ 22 := by unfold lmTop; split <;> omega
theorem lm_le (a b c d x : Nat) : lm a b c d x ≤ 23 := by unfold lm; split <;> omega

end Go.Proofs.YteedbejlbjfkgaaGreat.Res

/- Plain laws: parities of sums and of common places. -/
namespace Go.Proofs.YteedbejlbjfkgaaGreat.Res

theorem bitN_xor (x y k : Nat) : bitN (x ^^^ y) k = (bitN x k + bitN y k) % 2 := by
  have h : (x ^^^ y).testBit k = (x.testBit k ^^ y.testBit k) := Nat.testBit_xor x y k
  cases hx : x.testBit k <;> cases hy : y.testBit k
  all_goals
    rw [hx, hy] at h
    first
      | rw [bitN_true h]
      | rw [bitN_false h]
    first
      | rw [bitN_true hx]
      | rw [bitN_false hx]
    first
      | rw [bitN_true hy]
      | rw [bitN_false hy]

theorem wtTo_xor (x y k : Nat) : wtTo (x ^^^ y) k % 2 = (wtTo x k + wtTo y k) % 2 := by
  induction k with
  | zero => rfl
  | succ k ih =>
    show (wtTo (x ^^^ y) k + bitN (x ^^^ y) k) % 2 = (wtTo x k + bitN x k + (wtTo y k + bitN y k)) % 2
    rw [bitN_xor]
    omega
theorem wt_xor (x y : Nat) : wt (x ^^^ y) % 2 = (wt x + wt y) % 2 := wtTo_xor x y 24

/-- The parity of the number of common places. -/
def pr (x y : Nat) : Nat := wt (x &&& y) % 2
theorem pr_xor (x y g : Nat) : pr (x ^^^ y) g = (pr x g + pr y g) % 2 := by
  unfold pr
  rw [Nat.and_xor_distrib_right, wt_xor]
  omega
theorem pr_xor' (g x y : Nat) : pr g (x ^^^ y) = (pr g x + pr g y) % 2 := by
  unfold pr
  rw [Nat.and_xor_distrib_left, wt_xor]
  omega
theorem pr_comm (x y : Nat) : pr x y = pr y x := by unfold pr; rw [Nat.and_comm]
theorem pr_lt (x y : Nat) : pr x y < 2 := by unfold pr; omega

theorem top_clear {z p : Nat} (h : z < 2 ^ (p + 1)) (hb : z.testBit p = false) : z < 2 ^ p := by
  rw [testBit_div, decide_eq_false_iff_not] at hb
  have h1 : z / 2 ^ p < 2 := by
    rw [Nat.div_lt_iff_lt_mul (Nat.two_pow_pos p)]
    rw [Nat.pow_succ, Nat.mul_comm] at h
    exact h
  apply (Nat.div_eq_zero_iff_lt (Nat.two_pow_pos p)).1
  generalize z / 2 ^ p = t at hb h1
  omega

end Go.Proofs.YteedbejlbjfkgaaGreat.Res

/- Plain laws: words moved by a permutation of the places. -/
namespace Go.Proofs.YteedbejlbjfkgaaGreat.Res

/-- Where a place goes. -/
def goes (p : List Int) (i : Nat) : Nat := (p.getD i 0).toNat
/-- The word of the places to which those of a list go. -/
def mwL (p : List Int) (ps : List Nat) : Nat := ps.foldl (fun o i => o ||| 2 ^ goes p i) 0
theorem mwL_snoc (p : List Int) (ps : List Nat) (i : Nat) : mwL p (ps ++ [i]) = mwL p ps ||| 2 ^ goes p i := by simp [mwL]
/-- The moved word, by the first k places. -/
def mw (p : List Int) (n : Nat) : Nat → Nat
  | 0 => 0
  | k + 1 => if n.testBit k then mw p n k ||| 2 ^ goes p k else mw p n k
def mvW (p : List Int) (n : Nat) : Nat := mw p n 24
theorem mw_hit {p : List Int} {n k : Nat} (h : n.testBit k = true) : mw p n (k + 1) = mw p n k ||| 2 ^ goes p k := by simp [mw, h]
theorem mw_miss {p : List Int} {n k : Nat} (h : n.testBit k = false) : mw p n (k + 1) = mw p n k := by simp [mw, h]
theorem mwL_to (p : List Int) (n k : Nat) : mwL p (placesTo n k) = mw p n k := by
  induction k with
  | zero => rfl
  | succ k ih =>
    cases h : n.testBit k
    · rw [placesTo_miss h, mw_miss h, ih]
    · rw [placesTo_hit h, mw_hit h, mwL_snoc, ih]
theorem mwL_all (p : List Int) (n : Nat) : mwL p (places n) = mvW p n := mwL_to p n 24
theorem mw_bit (p : List Int) (n k j : Nat) : (mw p n k).testBit j = true ↔ ∃ i, i < k ∧ n.testBit i = true ∧ goes p i = j := by
  induction k with
  | zero => simp [mw]
  | succ k ih =>
    cases h : n.testBit k
    · rw [mw_miss h, ih]
      constructor
      · rintro ⟨i, hi, h1, h2⟩; exact ⟨i, by omega, h1, h2⟩
      · rintro ⟨i, hi, h1, h2⟩
        refine ⟨i, ?_, h1, h2⟩
        by_cases e : i = k
        · subst e; rw [h] at h1; cases h1
        · omega
    · rw [mw_hit h, Nat.testBit_or, Bool.or_eq_true, ih, Nat.testBit_two_pow, decide_eq_true_eq]
      constructor
      · rintro (⟨i, hi, h1, h2⟩ | e)
        · exact ⟨i, by omega, h1, h2⟩
        · exact ⟨k, by omega, h, e⟩
      · rintro ⟨i, hi, h1, h2⟩
        by_cases e : i = k
        · subst e; exact .inr h2
        · exact .inl ⟨i, by omega, h1, h2⟩
theorem goes_lt {p : List Int} {k i : Nat} (h : okTo p k) (hi : i < k) : goes p i < 24 := by
  have := h.1 i hi
  unfold goes
  omega
theorem goes_inj {p : List Int} {k i j : Nat} (h : okTo p k) (hi : i < k) (hj : j < k) (e : goes p i = goes p j) : i = j := by
  have h1 := h.1 i hi
  have h2 := h.1 j hj
  unfold goes at e
  rcases Nat.lt_trichotomy i j with hlt | heq | hgt
  · exact absurd (by omega) (h.2 i j hlt hj)
  · exact heq
  · exact absurd (by omega) (h.2 j i hgt hi)
theorem mwL_lt {p : List Int} (h : okTo p 24) {ps : List Nat} (hp : ∀ i, i ∈ ps → i < 24) : mwL p ps < 2 ^ 24 := by
  have : ∀ (ps : List Nat) (o : Nat), o < 2 ^ 24 → (∀ i, i ∈ ps → i < 24) → ps.foldl (fun o i => o ||| 2 ^ goes p i) o < 2 ^ 24 := by
    intro ps
    induction ps with
    | nil => intro o ho _; exact ho
    | cons i ps ih =>
      intro o ho hi
      exact ih _ (Nat.or_lt_two_pow ho (Nat.pow_lt_pow_right (by omega) (goes_lt h (hi i (by simp))))) (fun j hj => hi j (by simp [hj]))
  exact this ps 0 (by decide) hp
theorem mw_lt {p : List Int} (h : okTo p 24) (n k : Nat) (hk : k ≤ 24) : mw p n k < 2 ^ 24 := by
  induction k with
  | zero => simp [mw]
  | succ k ih =>
    have ih := ih (by omega)
    cases hb : n.testBit k
    · rw [mw_miss hb]; exact ih
    · rw [mw_hit hb]
      exact Nat.or_lt_two_pow ih (Nat.pow_lt_pow_right (by omega) (goes_lt h (by omega)))
theorem mvW_lt {p : List Int} (h : okTo p 24) (n : Nat) : mvW p n < 16777216 := mw_lt h n 24 (Nat.le_refl _)
theorem mw_fresh {p : List Int} (h : okTo p 24) (n : Nat) {k : Nat} (hk : k < 24) : (mw p n k).testBit (goes p k) = false := by
  cases hb : (mw p n k).testBit (goes p k)
  · rfl
  · obtain ⟨i, hi, -, e⟩ := (mw_bit p n k _).1 hb
    have := goes_inj h (by omega) hk e
    omega
/-- The reference's step: it adds the bit, shifted. -/
theorem mw_step {p : List Int} (h : okTo p 24) (n : Nat) {k : Nat} (hk : k < 24) : mw p n (k + 1) = mw p n k + bitN n k * 2 ^ goes p k := by
  cases hb : n.testBit k
  · rw [mw_miss hb, bitN_false hb, Nat.zero_mul, Nat.add_zero]
  · rw [mw_hit hb, bitN_true hb, Nat.one_mul, add_bit (mw_fresh h n hk)]
theorem mvW_goes {p : List Int} (h : okTo p 24) (n : Nat) {i : Nat} (hi : i < 24) : (mvW p n).testBit (goes p i) = n.testBit i := by
  rw [Bool.eq_iff_iff]
  unfold mvW
  rw [mw_bit]
  constructor
  · rintro ⟨j, hj, h1, h2⟩
    rw [← goes_inj h hj hi h2]
    exact h1
  · intro h1
    exact ⟨i, hi, h1, rfl⟩
theorem wt_zero : wt 0 = 0 := by decide +kernel
theorem mw_wt {p : List Int} (h : okTo p 24) (n k : Nat) (hk : k ≤ 24) : wt (mw p n k) = wtTo n k := by
  induction k with
  | zero => exact wt_zero
  | succ k ih =>
    have ih := ih (by omega)
    show _ = wtTo n k + bitN n k
    cases hb : n.testBit k
    · rw [mw_miss hb, bitN_false hb, ih, Nat.add_zero]
    · have hw := wtTo_or (mw_fresh h n (show k < 24 by omega)) 24
      rw [if_pos (goes_lt h (by omega))] at hw
      rw [mw_hit hb, bitN_true hb, ← ih]
      exact hw
/-- Moved words have the same weight. -/
theorem mvW_wt {p : List Int} (h : okTo p 24) (n : Nat) : wt (mvW p n) = wt n := mw_wt h n 24 (Nat.le_refl _)

/-- Every place is reached. -/
theorem goes_onto {p : List Int} (hl : p.length = 24) (h : okTo p 24) {j : Nat} (hj : j < 24) : ∃ i, i < 24 ∧ goes p i = j := by
  have h24 : okTo p p.length := by rw [hl]; exact h
  have hm := mk_full h24
  rw [hl] at hm
  have hm2 : mk p 24 = 16777215 := by
    have : (mk p 24 == 16777215) = true := by rw [hm]; rfl
    rw [beq_iff_eq] at this
    exact this
  have hb : (mk p 24).testBit j = true := by
    rw [hm2, show (16777215 : Nat) = 2 ^ 24 - 1 by decide, Nat.testBit_two_pow_sub_one]
    simp [hj]
  exact (mk_bit p 24 j).1 hb
theorem mvW_xor {p : List Int} (hl : p.length = 24) (h : okTo p 24) (x y : Nat) : mvW p (x ^^^ y) = mvW p x ^^^ mvW p y := by
  apply word_ext (mvW_lt h _) (Nat.xor_lt_two_pow (n := 24) (mvW_lt h x) (mvW_lt h y))
  intro j hj
  obtain ⟨i, hi, rfl⟩ := goes_onto hl h hj
  rw [Nat.testBit_xor, mvW_goes h _ hi, mvW_goes h _ hi, mvW_goes h _ hi, Nat.testBit_xor]

end Go.Proofs.YteedbejlbjfkgaaGreat.Res

/- Plain laws: permutations one after the other, turned, fixed places. -/
namespace Go.Proofs.YteedbejlbjfkgaaGreat.Res

theorem permOk_iff (p : List Int) : permOk p = true ↔ p.length = 24 ∧ okTo p 24 := by
  unfold permOk
  rw [Bool.and_eq_true, beq_iff_eq]
  constructor
  · rintro ⟨h1, h2⟩
    refine ⟨h1, ?_⟩
    have := (okTo_iff p).2 h2
    rw [h1] at this
    exact this
  · rintro ⟨h1, h2⟩
    refine ⟨h1, (okTo_iff p).1 ?_⟩
    rw [h1]
    exact h2
theorem okTo_of {p : List Int} (f : Nat → Nat) (hf : ∀ i, i < 24 → p.getD i 0 = ((f i : Nat) : Int) ∧ f i < 24) (hi : ∀ i j, i < j → j < 24 → f i ≠ f j) : okTo p 24 := by
  refine ⟨fun i h => ?_, fun i j h1 h2 => ?_⟩
  · have := hf i h
    omega
  · have h3 := hf i (by omega)
    have h4 := hf j h2
    have := hi i j h1 h2
    omega
theorem goes_get {p : List Int} (h : okTo p 24) {i : Nat} (hi : i < 24) : p.getD i 0 = ((goes p i : Nat) : Int) := by
  have := h.1 i hi
  unfold goes
  omega

/-- One after the other, the first k places. -/
def tmTo (p q : List Int) (k : Nat) : List Int := (List.range k).map fun i => q.getD (goes p i) 0
def tmL (p q : List Int) : List Int := tmTo p q 24
theorem tmTo_succ (p q : List Int) (k : Nat) : tmTo p q (k + 1) = tmTo p q k ++ [q.getD (goes p k) 0] := by simp [tmTo, List.range_succ]
theorem tmTo_length (p q : List Int) (k : Nat) : (tmTo p q k).length = k := by simp [tmTo]
theorem tmL_get (p q : List Int) (i : Nat) (hi : i < 24) : (tmL p q).getD i 0 = q.getD (goes p i) 0 := by
  unfold tmL tmTo
  simp [List.getD, hi]
theorem tmL_goes (p q : List Int) {i : Nat} (hi : i < 24) : goes (tmL p q) i = goes q (goes p i) := by
  unfold goes
  rw [tmL_get p q i hi]
  rfl
theorem tmL_ok {p q : List Int} (hp : okTo p 24) (hq : okTo q 24) : okTo (tmL p q) 24 := by
  refine okTo_of (fun i => goes q (goes p i)) (fun i hi => ⟨?_, goes_lt hq (goes_lt hp hi)⟩) (fun i j hij hj e => ?_)
  · rw [tmL_get p q i hi]
    exact goes_get hq (goes_lt hp hi)
  · have h1 := goes_inj hq (goes_lt hp (show i < 24 by omega)) (goes_lt hp hj) e
    have h2 := goes_inj hp (show i < 24 by omega) hj h1
    omega

/-- Turned, the first k places. -/
def tnTo (p : List Int) : Nat → List Int
  | 0 => List.replicate 24 0
  | k + 1 => (tnTo p k).set (goes p k) (k : Int)
def tnL (p : List Int) : List Int := tnTo p 24
theorem tnTo_length (p : List Int) (k : Nat) : (tnTo p k).length = 24 := by
  induction k with
  | zero => simp [tnTo]
  | succ k ih => simp [tnTo, ih]
theorem tnTo_get {p : List Int} (h : okTo p 24) (k : Nat) (hk : k ≤ 24) (i : Nat) (hi : i < k) : (tnTo p k).getD (goes p i) 0 = (i : Int) := by
  induction k with
  | zero => omega
  | succ k ih =>
    have hl := tnTo_length p k
    have hg := goes_lt h (show i < 24 by omega)
    show ((tnTo p k).set (goes p k) (k : Int)).getD (goes p i) 0 = _
    simp only [List.getD, List.getElem?_set]
    by_cases e : goes p k = goes p i
    · have := goes_inj h (show k < 24 by omega) (show i < 24 by omega) e
      subst this
      simp [hl, hg]
    · rw [if_neg e]
      have hik : i ≠ k := fun e' => e (by rw [e'])
      exact ih (by omega) (by omega)
theorem tnL_goes {p : List Int} (h : okTo p 24) {i : Nat} (hi : i < 24) : goes (tnL p) (goes p i) = i := by
  have := tnTo_get h 24 (Nat.le_refl _) i hi
  unfold tnL
  show ((tnTo p 24).getD (goes p i) 0).toNat = i
  rw [this]
  omega
theorem tnL_ok {p : List Int} (hl : p.length = 24) (h : okTo p 24) : okTo (tnL p) 24 := by
  have key : ∀ j, j < 24 → ∃ i, i < 24 ∧ goes p i = j ∧ (tnL p).getD j 0 = (i : Int) := fun j hj => by
    obtain ⟨i, hi, e⟩ := goes_onto hl h hj
    refine ⟨i, hi, e, ?_⟩
    rw [← e]
    exact tnTo_get h 24 (Nat.le_refl _) i hi
  refine ⟨fun j hj => ?_, fun j j' h1 h2 e => ?_⟩
  · obtain ⟨i, hi, -, e⟩ := key j hj
    omega
  · obtain ⟨i, hi, g, e1⟩ := key j (by omega)
    obtain ⟨i', hi', g', e2⟩ := key j' h2
    have : i = i' := by omega
    subst this
    omega
theorem goes_tnL {p : List Int} (hl : p.length = 24) (h : okTo p 24) {j : Nat} (hj : j < 24) : goes p (goes (tnL p) j) = j := by
  obtain ⟨i, hi, rfl⟩ := goes_onto hl h hj
  rw [tnL_goes h hi]

/-- Fixed places below k. -/
def fxTo (p : List Int) : Nat → Nat
  | 0 => 0
  | k + 1 => if goes p k = k then fxTo p k ||| 2 ^ k else fxTo p k
theorem fxTo_hit {p : List Int} {k : Nat} (h : goes p k = k) : fxTo p (k + 1) = fxTo p k ||| 2 ^ k := by simp [fxTo, h]
theorem fxTo_miss {p : List Int} {k : Nat} (h : goes p k ≠ k) : fxTo p (k + 1) = fxTo p k := by simp [fxTo, h]
theorem fxTo_bit (p : List Int) (k i : Nat) : (fxTo p k).testBit i = (decide (i < k) && decide (goes p i = i)) := by
  induction k with
  | zero => simp [fxTo]
  | succ k ih =>
    by_cases h : goes p k = k
    · rw [fxTo_hit h, Nat.testBit_or, ih, Nat.testBit_two_pow]
      by_cases hik : i = k
      · subst hik; simp [h]
      · by_cases h3 : i < k
        · simp [h3, show i < k + 1 by omega, show ¬ k = i by omega]
        · simp [h3, show ¬ i < k + 1 by omega, show ¬ k = i by omega]
    · rw [fxTo_miss h, ih]
      by_cases hik : i = k
      · subst hik; simp [h]
      · by_cases h3 : i < k
        · simp [h3, show i < k + 1 by omega]
        · simp [h3, show ¬ i < k + 1 by omega]
theorem fxTo_lt (p : List Int) (k : Nat) : fxTo p k < 2 ^ k := by
  induction k with
  | zero => simp [fxTo]
  | succ k ih =>
    have h1 : fxTo p k < 2 ^ (k + 1) := Nat.lt_trans ih (Nat.pow_lt_pow_right (by omega) (by omega))
    simp only [fxTo]
    split
    · exact Nat.or_lt_two_pow h1 (Nat.pow_lt_pow_right (by omega) (by omega))
    · exact h1
def fxW (p : List Int) : Nat := fxTo p 24
theorem full_bit {i : Nat} (hi : i < 24) : (16777215 : Nat).testBit i = true := by
  rw [show (16777215 : Nat) = 2 ^ 24 - 1 by decide, Nat.testBit_two_pow_sub_one]
  simp [hi]
/-- A permutation, then turned: every place stays. -/
theorem fixed_back {p : List Int} (h : okTo p 24) : fxW (tmL p (tnL p)) = 16777215 := by
  apply word_ext (fxTo_lt _ 24) (by omega)
  intro i hi
  rw [full_bit hi]
  rw [fxTo_bit, tmL_goes _ _ hi, tnL_goes h hi]
  simp [hi]
theorem mvW_full {p : List Int} (hl : p.length = 24) (h : okTo p 24) : mvW p 16777215 = 16777215 := by
  apply word_ext (mvW_lt h _) (by omega)
  intro j hj
  obtain ⟨i, hi, rfl⟩ := goes_onto hl h hj
  rw [mvW_goes h _ hi, full_bit hi, full_bit (goes_lt h hi)]
/-- Words are moved one after the other. -/
theorem mvW_tm {p q : List Int} (hlp : p.length = 24) (hp : okTo p 24) (hlq : q.length = 24) (hq : okTo q 24) (n : Nat) : mvW (tmL p q) n = mvW q (mvW p n) := by
  apply word_ext (mvW_lt (tmL_ok hp hq) _) (mvW_lt hq _)
  intro j hj
  obtain ⟨i', hi', rfl⟩ := goes_onto hlq hq hj
  obtain ⟨i, hi, rfl⟩ := goes_onto hlp hp hi'
  rw [mvW_goes hq _ (goes_lt hp hi), mvW_goes hp _ hi, ← tmL_goes p q hi, mvW_goes (tmL_ok hp hq) _ hi]
/-- Moved back. -/
theorem mvW_tn {p : List Int} (hl : p.length = 24) (h : okTo p 24) {n : Nat} (hn : n < 16777216) : mvW (tnL p) (mvW p n) = n := by
  have ht := tnL_ok hl h
  apply word_ext (mvW_lt ht _) hn
  intro j hj
  have h1 := mvW_goes ht (mvW p n) (goes_lt h hj)
  rw [tnL_goes h hj, mvW_goes h n hj] at h1
  exact h1

end Go.Proofs.YteedbejlbjfkgaaGreat.Res

/- Plain model: inner products. -/
namespace Go.Proofs.YteedbejlbjfkgaaGreat.Res

/-- The inner product of the first k numbers. -/
def dotTo (l m : List Int) : Nat → Int
  | 0 => 0
  | k + 1 => dotTo l m k + l.getD k 0 * m.getD k 0

theorem dotTo_comm (l m : List Int) (k : Nat) : dotTo l m k = dotTo m l k := by
  induction k with
  | zero => rfl
  | succ k ih =>
    simp only [dotTo]
    rw [ih, Int.mul_comm]

end Go.Proofs.YteedbejlbjfkgaaGreat.Res

/- Plain laws: words of the code as sums of words of a basis; checks at all 4096. -/
namespace Go.Proofs.YteedbejlbjfkgaaGreat.Res

/-- Words of a basis. -/
def cdBase : List Nat := [10928140, 7118858, 6996160, 13017248, 13421568, 11184640, 15658721, 255, 3855, 61455, 983055, 15728655]
/-- Sums of words of the basis. -/
def enTo (m : Nat) : Nat → Nat
  | 0 => 0
  | k + 1 => if m.testBit k then enTo m k ^^^ cdBase.getD k 0 else enTo m k
def en (m : Nat) : Nat := enTo m 12
theorem enTo_hit {m k : Nat} (h : m.testBit k = true) : enTo m (k + 1) = enTo m k ^^^ cdBase.getD k 0 := by simp [enTo, h]
theorem enTo_miss {m k : Nat} (h : m.testBit k = false) : enTo m (k + 1) = enTo m k := by simp [enTo, h]
theorem enTo_xor (x y k : Nat) : enTo (x ^^^ y) k = enTo x k ^^^ enTo y k := by
  induction k with
  | zero => simp [enTo]
  | succ k ih =>
    have h : (x ^^^ y).testBit k = (x.testBit k ^^ y.testBit k) := Nat.testBit_xor x y k
    cases hx : x.testBit k <;> cases hy : y.testBit k <;> rw [hx, hy] at h
    · rw [enTo_miss h, enTo_miss hx, enTo_miss hy, ih]
    · rw [enTo_hit h, enTo_miss hx, enTo_hit hy, ih, Nat.xor_assoc]
    · rw [enTo_hit h, enTo_hit hx, enTo_miss hy, ih, Nat.xor_assoc, Nat.xor_comm (enTo y k), Nat.xor_assoc]
    · have e : enTo x k ^^^ cdBase.getD k 0 ^^^ (enTo y k ^^^ cdBase.getD k 0) = enTo x k ^^^ enTo y k := by
        rw [Nat.xor_comm (enTo y k), Nat.xor_assoc, ← Nat.xor_assoc (cdBase.getD k 0), Nat.xor_self, Nat.zero_xor]
      rw [enTo_miss h, enTo_hit hx, enTo_hit hy, ih, e]
theorem en_xor (x y : Nat) : en (x ^^^ y) = en x ^^^ en y := enTo_xor x y 12

set_option maxRecDepth 100000 in
theorem en_code : allB (fun m => Nat.beq (code m) (en m)) 12 0 = true := by decide +kernel
def cwOk (n : Nat) : Bool := Nat.beq n 0 || Nat.beq n 8 || Nat.beq n 12 || Nat.beq n 16 || Nat.beq n 24
set_option maxRecDepth 100000 in
theorem en_wt : allB (fun m => cwOk (wt (en m))) 12 0 = true := by decide +kernel
theorem base_dual : ∀ i, i < 12 → ∀ j, j < 12 → pr (cdBase.getD i 0) (cdBase.getD j 0) = 0 := by decide +kernel

end Go.Proofs.YteedbejlbjfkgaaGreat.Res

/- Plain laws: the code is linear and meets itself evenly; the weights of its words. -/
namespace Go.Proofs.YteedbejlbjfkgaaGreat.Res

theorem fill_sc : ∀ n, n < 16 → fill (sc n) (wt n % 2) (n % 2) = n := by decide +kernel

/-- The message of a word of the code. -/
def msg (w : Nat) : Nat := sc (col w 0) + 4 * sc (col w 1) + 16 * sc (col w 2) + 64 * (topS w 6 % 2) + 128 * (bitN w 4 + 2 * bitN w 8 + 4 * bitN w 12 + 8 * bitN w 16 + 16 * bitN w 20)
theorem msg_lt (w : Nat) : msg w < 4096 := by
  have h0 := sc_lt (col w 0)
  have h1 := sc_lt (col w 1)
  have h2 := sc_lt (col w 2)
  have b1 := bitN_le w 4
  have b2 := bitN_le w 8
  have b3 := bitN_le w 12
  have b4 := bitN_le w 16
  have b5 := bitN_le w 20
  unfold msg
  omega

theorem par_get {w c : Nat} (hc : c < 6) (h : codeB w = true) : wt (col w c) % 2 = topS w 6 % 2 := by
  cases hp : parOk w c
  · rw [codeB_par hc hp] at h
    cases h
  · unfold parOk at hp
    rw [beq_iff_eq] at hp
    exact hp
theorem hex_get {w : Nat} (h : codeB w = true) : scl w = hexRow (sc (col w 0)) (sc (col w 1)) (sc (col w 2)) := by
  unfold codeB at h
  rw [Bool.and_eq_true] at h
  have h2 := h.2
  unfold hexIs at h2
  rw [beq_iff_eq] at h2
  exact h2
theorem scl_get {w c : Nat} (hc : c < 6) : (scl w).getD c 0 = sc (col w c) := by
  unfold scl sclTo
  simp [List.getD, hc]
theorem col_fill {w c : Nat} (hc : c < 6) (h : codeB w = true) : fill (sc (col w c)) (topS w 6 % 2) (bitN w (4 * c)) = col w c := by
  have e : bitN w (4 * c) = col w c % 2 := by
    unfold bitN col
    omega
  rw [← par_get hc h, e]
  exact fill_sc _ (col_lt w c)
theorem word_cols {w : Nat} (hw : w < 16777216) : w = col w 1 * 2 ^ (4 * 1) + col w 2 * 2 ^ (4 * 2) + col w 3 * 2 ^ (4 * 3) + col w 4 * 2 ^ (4 * 4) + col w 5 * 2 ^ (4 * 5) + col w 0 := by
  unfold col
  omega
theorem top_zero (w : Nat) : ((((((0 ^^^ bitN w 4) ^^^ bitN w 8) ^^^ bitN w 12) ^^^ bitN w 16) ^^^ bitN w 20) ^^^ (topS w 6 % 2)) = bitN w 0 := by
  have b0 := bitN_le w 0
  have b1 := bitN_le w 4
  have b2 := bitN_le w 8
  have b3 := bitN_le w 12
  have b4 := bitN_le w 16
  have b5 := bitN_le w 20
  have e : topS w 6 = bitN w 0 + bitN w 4 + bitN w 8 + bitN w 12 + bitN w 16 + bitN w 20 := by simp [topS]
  rw [e]
  generalize bitN w 0 = x0 at *
  generalize bitN w 4 = x1 at *
  generalize bitN w 8 = x2 at *
  generalize bitN w 12 = x3 at *
  generalize bitN w 16 = x4 at *
  generalize bitN w 20 = x5 at *
  rw [Nat.zero_xor, bit_xor (a := x1) (b := x2) (by omega) (by omega), bit_xor (a := (x1 + x2) % 2) (b := x3) (by omega) (by omega), bit_xor (a := ((x1 + x2) % 2 + x3) % 2) (b := x4) (by omega) (by omega), bit_xor (a := (((x1 + x2) % 2 + x3) % 2 + x4) % 2) (b := x5) (by omega) (by omega), bit_xor (a := ((((x1 + x2) % 2 + x3) % 2 + x4) % 2 + x5) % 2) (b := (x0 + x1 + x2 + x3 + x4 + x5) % 2) (by omega) (by omega)]
  omega

theorem code_msg {w : Nat} (hw : w < 16777216) (h : codeB w = true) : code (msg w) = w := by
  have h0 := sc_lt (col w 0)
  have h1 := sc_lt (col w 1)
  have h2 := sc_lt (col w 2)
  have b1 := bitN_le w 4
  have b2 := bitN_le w 8
  have b3 := bitN_le w 12
  have b4 := bitN_le w 16
  have b5 := bitN_le w 20
  have hm : msg w = sc (col w 0) + 4 * sc (col w 1) + 16 * sc (col w 2) + 64 * (topS w 6 % 2) + 128 * (bitN w 4 + 2 * bitN w 8 + 4 * bitN w 12 + 8 * bitN w 16 + 16 * bitN w 20) := rfl
  have m0 : msg w % 4 = sc (col w 0) := by omega
  have m1 : msg w / 4 % 4 = sc (col w 1) := by omega
  have m2 : msg w / 16 % 4 = sc (col w 2) := by omega
  have p6 : bitN (msg w) 6 = topS w 6 % 2 := by show msg w / 64 % 2 = _; omega
  have p7 : bitN (msg w) (7 + 0) = bitN w 4 := by show msg w / 128 % 2 = _; omega
  have p8 : bitN (msg w) (7 + 1) = bitN w 8 := by show msg w / 256 % 2 = _; omega
  have p9 : bitN (msg w) (7 + 2) = bitN w 12 := by show msg w / 512 % 2 = _; omega
  have p10 : bitN (msg w) (7 + 3) = bitN w 16 := by show msg w / 1024 % 2 = _; omega
  have p11 : bitN (msg w) (7 + 4) = bitN w 20 := by show msg w / 2048 % 2 = _; omega
  clear hm
  have hr : cdRow (msg w) = scl w := by
    unfold cdRow
    rw [m0, m1, m2]
    exact (hex_get h).symm
  have ht : cdTop (msg w) 5 = ((((0 ^^^ bitN w 4) ^^^ bitN w 8) ^^^ bitN w 12) ^^^ bitN w 16) ^^^ bitN w 20 := by
    simp only [cdTop]
    rw [p7, p8, p9, p10, p11]
  have e : code (msg w) = col w 1 * 2 ^ (4 * 1) + col w 2 * 2 ^ (4 * 2) + col w 3 * 2 ^ (4 * 3) + col w 4 * 2 ^ (4 * 4) + col w 5 * 2 ^ (4 * 5) + col w 0 := by
    unfold code
    rw [ht, p6, top_zero]
    simp only [cdTo]
    rw [hr, p6, p7, p8, p9, p10, p11]
    rw [scl_get (c := 0) (by omega), scl_get (c := 0 + 1) (by omega), scl_get (c := 1 + 1) (by omega), scl_get (c := 2 + 1) (by omega), scl_get (c := 3 + 1) (by omega), scl_get (c := 4 + 1) (by omega)]
    have f0 := col_fill (c := 0) (by omega) h
    have f1 := col_fill (c := 1) (by omega) h
    have f2 := col_fill (c := 2) (by omega) h
    have f3 := col_fill (c := 3) (by omega) h
    have f4 := col_fill (c := 4) (by omega) h
    have f5 := col_fill (c := 5) (by omega) h
    simp only [Nat.reduceMul, Nat.reduceAdd] at f0 f1 f2 f3 f4 f5 ⊢
    rw [f0, f1, f2, f3, f4, f5, Nat.zero_add]
  rw [e]
  exact (word_cols hw).symm

/-- The places of row 0 of a message. -/
def topM (m c : Nat) : Nat := if c = 0 then cdTop m 5 ^^^ bitN m 6 else bitN m (6 + c)
theorem topM_lt (m c : Nat) : topM m c < 2 := by
  unfold topM
  split
  · have h1 := cdTop_le m 5
    have h2 := bitN_le m 6
    exact Nat.xor_lt_two_pow (n := 1) (by omega) (by omega)
  · have := bitN_le m (6 + c)
    omega
theorem fill_facts : ∀ s, s < 4 → ∀ p, p < 2 → ∀ f, f < 2 → sc (fill s p f) = s ∧ wt (fill s p f) % 2 = p ∧ fill s p f % 2 = f := by decide +kernel
def colM (m c : Nat) : Nat := fill ((cdRow m).getD c 0) (bitN m 6) (topM m c)
theorem colM_lt (m c : Nat) : colM m c < 16 := fill_lt _ (by have := cdRow_le m c; omega) _ (by have := bitN_le m 6; omega) _ (topM_lt m c)
theorem colM_facts (m c : Nat) : sc (colM m c) = (cdRow m).getD c 0 ∧ wt (colM m c) % 2 = bitN m 6 ∧ colM m c % 2 = topM m c :=
  fill_facts _ (by have := cdRow_le m c; omega) _ (by have := bitN_le m 6; omega) _ (topM_lt m c)
theorem code_sum (m : Nat) : code m = colM m 0 + 16 * colM m 1 + 256 * colM m 2 + 4096 * colM m 3 + 65536 * colM m 4 + 1048576 * colM m 5 := by
  have h : code m = 0 + colM m 1 * 2 ^ 4 + colM m 2 * 2 ^ 8 + colM m 3 * 2 ^ 12 + colM m 4 * 2 ^ 16 + colM m 5 * 2 ^ 20 + colM m 0 := rfl
  rw [h]
  omega
theorem code_col (m : Nat) {c : Nat} (hc : c < 6) : col (code m) c = colM m c := by
  have h := code_sum m
  have h0 := colM_lt m 0
  have h1 := colM_lt m 1
  have h2 := colM_lt m 2
  have h3 := colM_lt m 3
  have h4 := colM_lt m 4
  have h5 := colM_lt m 5
  unfold col
  obtain rfl | rfl | rfl | rfl | rfl | rfl : c = 0 ∨ c = 1 ∨ c = 2 ∨ c = 3 ∨ c = 4 ∨ c = 5 := by omega
  · show code m / 1 % 16 = _; omega
  · show code m / 16 % 16 = _; omega
  · show code m / 256 % 16 = _; omega
  · show code m / 4096 % 16 = _; omega
  · show code m / 65536 % 16 = _; omega
  · show code m / 1048576 % 16 = _; omega
theorem bitN_col (n c : Nat) : bitN n (4 * c) = col n c % 2 := by
  unfold bitN col
  omega
theorem code_top (m : Nat) : topS (code m) 6 % 2 = bitN m 6 := by
  have e : ∀ c, c < 6 → bitN (code m) (4 * c) = topM m c := by
    intro c hc
    rw [bitN_col, code_col m hc]
    exact (colM_facts m c).2.2
  simp only [topS]
  rw [e 0 (by omega), e (0 + 1) (by omega), e (0 + 1 + 1) (by omega), e (0 + 1 + 1 + 1) (by omega), e (0 + 1 + 1 + 1 + 1) (by omega), e (0 + 1 + 1 + 1 + 1 + 1) (by omega)]
  have t0 : topM m 0 = (((((0 ^^^ bitN m 7) ^^^ bitN m 8) ^^^ bitN m 9) ^^^ bitN m 10) ^^^ bitN m 11) ^^^ bitN m 6 := rfl
  have t1 : topM m (0 + 1) = bitN m 7 := rfl
  have t2 : topM m (0 + 1 + 1) = bitN m 8 := rfl
  have t3 : topM m (0 + 1 + 1 + 1) = bitN m 9 := rfl
  have t4 : topM m (0 + 1 + 1 + 1 + 1) = bitN m 10 := rfl
  have t5 : topM m (0 + 1 + 1 + 1 + 1 + 1) = bitN m 11 := rfl
  rw [t0, t1, t2, t3, t4, t5]
  have b6 := bitN_le m 6
  have b7 := bitN_le m 7
  have b8 := bitN_le m 8
  have b9 := bitN_le m 9
  have b10 := bitN_le m 10
  have b11 := bitN_le m 11
  generalize bitN m 6 = x0 at *
  generalize bitN m 7 = x1 at *
  generalize bitN m 8 = x2 at *
  generalize bitN m 9 = x3 at *
  generalize bitN m 10 = x4 at *
  generalize bitN m 11 = x5 at *
  rw [Nat.zero_xor, bit_xor (a := x1) (b := x2) (by omega) (by omega), bit_xor (a := (x1 + x2) % 2) (b := x3) (by omega) (by omega), bit_xor (a := ((x1 + x2) % 2 + x3) % 2) (b := x4) (by omega) (by omega), bit_xor (a := (((x1 + x2) % 2 + x3) % 2 + x4) % 2) (b := x5) (by omega) (by omega), bit_xor (a := ((((x1 + x2) % 2 + x3) % 2 + x4) % 2 + x5) % 2) (b := x0) (by omega) (by omega)]
  omega
theorem code_in (m : Nat) : codeB (code m) = true := by
  unfold codeB
  rw [Bool.and_eq_true]
  constructor
  · rw [List.all_eq_true]
    intro c hc
    have hc6 : c < 6 := by simpa using hc
    unfold parOk
    rw [beq_iff_eq, code_top, code_col m hc6]
    exact (colM_facts m c).2.1
  · have e : scl (code m) = cdRow m := by
      have e1 : scl (code m) = [sc (col (code m) 0), sc (col (code m) 1), sc (col (code m) 2), sc (col (code m) 3), sc (col (code m) 4), sc (col (code m) 5)] := rfl
      rw [e1, code_col m (by omega), code_col m (by omega), code_col m (by omega), code_col m (by omega), code_col m (by omega), code_col m (by omega),
        (colM_facts m 0).1, (colM_facts m 1).1, (colM_facts m 2).1, (colM_facts m 3).1, (colM_facts m 4).1, (colM_facts m 5).1]
      rfl
    rw [e]
    unfold hexIs
    rw [beq_iff_eq]
    rfl

theorem in_en {w : Nat} (hw : w < 16777216) (h : codeB w = true) : w = en (msg w) := by
  have h1 := code_msg hw h
  have h2 := Nat.eq_of_beq_eq_true (allB_all 12 en_code (msg w) (msg_lt w))
  rw [← h2, h1]
/-- The code is closed. -/
theorem codeB_xor {a b : Nat} (ha : a < 16777216) (hb : b < 16777216) (h1 : codeB a = true) (h2 : codeB b = true) : codeB (a ^^^ b) = true := by
  rw [in_en ha h1, in_en hb h2, ← en_xor]
  rw [← Nat.eq_of_beq_eq_true (allB_all 12 en_code _ (Nat.xor_lt_two_pow (n := 12) (msg_lt a) (msg_lt b)))]
  exact code_in _
theorem codeB_zero : codeB 0 = true := by decide +kernel
theorem codeB_full : codeB 16777215 = true := by decide +kernel
/-- The weights of the code's words. -/
theorem codeB_wt {w : Nat} (hw : w < 16777216) (h : codeB w = true) : wt w = 0 ∨ wt w = 8 ∨ wt w = 12 ∨ wt w = 16 ∨ wt w = 24 := by
  have := allB_all 12 en_wt (msg w) (msg_lt w)
  rw [← in_en hw h] at this
  unfold cwOk at this
  simp only [Bool.or_eq_true, Nat.beq_eq] at this
  omega
theorem enTo_pr (m k : Nat) (hk : k ≤ 12) (j : Nat) (hj : j < 12) : pr (enTo m k) (cdBase.getD j 0) = 0 := by
  induction k with
  | zero => unfold pr; rw [show enTo m 0 = 0 from rfl, Nat.zero_and]; rfl
  | succ k ih =>
    cases h : m.testBit k
    · rw [enTo_miss h]; exact ih (by omega)
    · rw [enTo_hit h, pr_xor, ih (by omega), base_dual k (by omega) j hj]
theorem en_pr (x m k : Nat) (hk : k ≤ 12) : pr (en x) (enTo m k) = 0 := by
  induction k with
  | zero => unfold pr; rw [show enTo m 0 = 0 from rfl, Nat.and_zero]; rfl
  | succ k ih =>
    cases h : m.testBit k
    · rw [enTo_miss h]; exact ih (by omega)
    · rw [enTo_hit h, pr_xor', ih (by omega), show pr (en x) (cdBase.getD k 0) = 0 from enTo_pr x 12 (Nat.le_refl _) k (by omega)]
/-- Words of the code meet evenly. -/
theorem codeB_pr {a b : Nat} (ha : a < 16777216) (hb : b < 16777216) (h1 : codeB a = true) (h2 : codeB b = true) : pr a b = 0 := by
  rw [in_en ha h1, in_en hb h2]
  exact en_pr _ _ 12 (Nat.le_refl _)

end Go.Proofs.YteedbejlbjfkgaaGreat.Res

/- Plain model: is a vector in the lattice? -/
namespace Go.Proofs.YteedbejlbjfkgaaGreat.Res

/-- The places below k whose numbers have the rest r by 4. -/
def rw4 (l : List Int) (r : Nat) : Nat → Nat
  | 0 => 0
  | k + 1 => if r = (l.getD k 0 % 4).toNat then rw4 l r k ||| 2 ^ k else rw4 l r k
theorem rw4_lt (l : List Int) (r k : Nat) : rw4 l r k < 2 ^ k := by
  induction k with
  | zero => simp [rw4]
  | succ k ih =>
    simp only [rw4]
    have h1 : rw4 l r k < 2 ^ (k + 1) := Nat.lt_trans ih (Nat.pow_lt_pow_right (by omega) (by omega))
    split
    · exact Nat.or_lt_two_pow h1 (Nat.pow_lt_pow_right (by omega) (by omega))
    · exact h1
theorem rw4_le (l : List Int) (r k : Nat) (hk : k ≤ 24) : rw4 l r k ≤ 16777215 := by
  have h1 := rw4_lt l r k
  have h2 : (2 : Nat) ^ k ≤ 2 ^ 24 := Nat.pow_le_pow_right (by omega) hk
  omega

def sumTo (l : List Int) : Nat → Int
  | 0 => 0
  | k + 1 => sumTo l k + l.getD k 0
theorem sumTo_bd {l : List Int} (h : ∀ i, -100000 ≤ l.getD i 0 ∧ l.getD i 0 ≤ 100000) (k : Nat) : -(100000 * (k : Int)) ≤ sumTo l k ∧ sumTo l k ≤ 100000 * (k : Int) := by
  induction k with
  | zero => simp [sumTo]
  | succ k ih =>
    have := h k
    simp only [sumTo]
    omega

/-- Is a number even or odd as the first one? -/
def parL (l : List Int) (i : Nat) : Bool := l.getD i 0 % 2 == l.getD 0 0 % 2
/-- Is a vector in the lattice? -/
def latB (l : List Int) : Bool :=
  (List.range 24).all (parL l) && (List.range 4).all (fun r => codeB (rw4 l r 24)) && sumTo l 24 % 8 == 4 * (l.getD 0 0 % 2)

theorem latB_par {l : List Int} {k : Nat} (hk : k < 24) (h : parL l k = false) : latB l = false := by
  have : (List.range 24).all (parL l) = false := by
    rw [List.all_eq_false]
    exact ⟨k, by simpa using hk, by simp [h]⟩
  unfold latB
  rw [this]
  rfl
theorem parL_step {l : List Int} {k : Nat} (hn : (List.range k).all (parL l) = true) (h : parL l k = true) : (List.range (k + 1)).all (parL l) = true := by
  rw [List.range_succ, List.all_append, hn]
  simp [h]
theorem latB_code {l : List Int} {r : Nat} (hr : r < 4) (h : codeB (rw4 l r 24) = false) : latB l = false := by
  have : (List.range 4).all (fun r => codeB (rw4 l r 24)) = false := by
    rw [List.all_eq_false]
    exact ⟨r, by simpa using hr, by simp [h]⟩
  unfold latB
  rw [this, Bool.and_false]
  rfl
theorem code4_step {l : List Int} {k : Nat} (hn : (List.range k).all (fun r => codeB (rw4 l r 24)) = true) (h : codeB (rw4 l k 24) = true) : (List.range (k + 1)).all (fun r => codeB (rw4 l r 24)) = true := by
  rw [List.range_succ, List.all_append, hn]
  simp [h]
theorem rw4_succ (l : List Int) (k : Nat) : (fun r => rw4 l r (k + 1)) = fun r => if r = (l.getD k 0 % 4).toNat then rw4 l r k ||| 2 ^ k else rw4 l r k := rfl

end Go.Proofs.YteedbejlbjfkgaaGreat.Res

/- Plain laws: vectors of the lattice by their word of halves; sums, signs, inner products, squares. -/
namespace Go.Proofs.YteedbejlbjfkgaaGreat.Res

/-- The places below k where p holds. -/
def wordP (p : Nat → Bool) : Nat → Nat
  | 0 => 0
  | k + 1 => if p k then wordP p k ||| 2 ^ k else wordP p k
theorem wordP_lt (p : Nat → Bool) (k : Nat) : wordP p k < 2 ^ k := by
  induction k with
  | zero => simp [wordP]
  | succ k ih =>
    simp only [wordP]
    have h1 : wordP p k < 2 ^ (k + 1) := Nat.lt_trans ih (Nat.pow_lt_pow_right (by omega) (by omega))
    split
    · exact Nat.or_lt_two_pow h1 (Nat.pow_lt_pow_right (by omega) (by omega))
    · exact h1
theorem wordP_bit (p : Nat → Bool) (k i : Nat) : (wordP p k).testBit i = (decide (i < k) && p i) := by
  induction k with
  | zero => simp [wordP]
  | succ k ih =>
    simp only [wordP]
    by_cases hp : p k = true
    · rw [if_pos hp, Nat.testBit_or, ih, Nat.testBit_two_pow]
      by_cases hik : i = k
      · subst hik; simp [hp]
      · by_cases h3 : i < k
        · simp [h3, show i < k + 1 by omega, show ¬ k = i by omega]
        · simp [h3, show ¬ i < k + 1 by omega, show ¬ k = i by omega]
    · rw [if_neg hp, ih]
      by_cases hik : i = k
      · subst hik; simp [hp]
      · by_cases h3 : i < k
        · simp [h3, show i < k + 1 by omega]
        · simp [h3, show ¬ i < k + 1 by omega]
theorem wordP_24 (p : Nat → Bool) : wordP p 24 < 16777216 := wordP_lt p 24
theorem rw4_word (l : List Int) (r k : Nat) : rw4 l r k = wordP (fun i => decide (r = (l.getD i 0 % 4).toNat)) k := by
  induction k with
  | zero => rfl
  | succ k ih =>
    simp only [rw4, wordP, ih]
    by_cases h : r = (l.getD k 0 % 4).toNat
    · rw [if_pos h, if_pos (decide_eq_true h)]
    · rw [if_neg h, if_neg (by rw [decide_eq_true_eq]; exact h)]
theorem bitN_word (p : Nat → Bool) (k i : Nat) (hi : i < k) : bitN (wordP p k) i = if p i then 1 else 0 := by
  have := wordP_bit p k i
  cases h : p i
  · rw [h, Bool.and_false] at this
    rw [bitN_false this]; rfl
  · rw [h] at this
    rw [bitN_true (by rw [this]; simp [hi])]; rfl

/-- The places where half of a number is odd. -/
def aw (l : List Int) : Nat := wordP (fun i => decide (l.getD i 0 / 2 % 2 = 1)) 24
theorem aw_lt (l : List Int) : aw l < 16777216 := wordP_24 _
theorem aw_bit (l : List Int) (i : Nat) (hi : i < 24) : (aw l).testBit i = decide (l.getD i 0 / 2 % 2 = 1) := by
  unfold aw
  rw [wordP_bit]
  simp [hi]

/-- What a vector of the lattice is. -/
def LatP (l : List Int) : Prop := (∀ i, i < 24 → l.getD i 0 % 2 = l.getD 0 0 % 2) ∧ codeB (aw l) = true ∧ sumTo l 24 % 8 = 4 * (l.getD 0 0 % 2)

theorem rw4_aw {l : List Int} (hp : ∀ i, i < 24 → l.getD i 0 % 2 = l.getD 0 0 % 2) {r : Nat} (hr : (r : Int) = 2 + l.getD 0 0 % 2) : rw4 l r 24 = aw l := by
  rw [rw4_word]
  apply word_ext (wordP_24 _) (aw_lt l)
  intro i hi
  rw [aw_bit l i hi, wordP_bit]
  have := hp i hi
  simp only [hi, decide_true, Bool.true_and]
  rw [decide_eq_decide]
  omega
theorem rw4_rest {l : List Int} (hp : ∀ i, i < 24 → l.getD i 0 % 2 = l.getD 0 0 % 2) {r : Nat} (hr : (r : Int) = l.getD 0 0 % 2) : rw4 l r 24 = 16777215 ^^^ aw l := by
  rw [rw4_word]
  apply word_ext (wordP_24 _) (Nat.xor_lt_two_pow (n := 24) (by omega) (aw_lt l))
  intro i hi
  rw [Nat.testBit_xor, aw_bit l i hi, wordP_bit]
  have := hp i hi
  have hf : (16777215 : Nat).testBit i = true := by
    rw [show (16777215 : Nat) = 2 ^ 24 - 1 by decide, Nat.testBit_two_pow_sub_one]
    simp [hi]
  rw [hf]
  simp only [hi, decide_true, Bool.true_and, Bool.true_bne]
  by_cases h : l.getD i 0 / 2 % 2 = 1
  · simp only [h, decide_true, Bool.not_true, decide_eq_false_iff_not]
    omega
  · simp only [h, decide_false, Bool.not_false, decide_eq_true_eq]
    omega
theorem rw4_none {l : List Int} (hp : ∀ i, i < 24 → l.getD i 0 % 2 = l.getD 0 0 % 2) {r : Nat} (hr : (r : Int) % 2 ≠ l.getD 0 0 % 2) : rw4 l r 24 = 0 := by
  rw [rw4_word]
  apply word_ext (wordP_24 _) (by omega)
  intro i hi
  rw [wordP_bit, Nat.zero_testBit]
  have := hp i hi
  simp only [hi, decide_true, Bool.true_and, decide_eq_false_iff_not]
  omega

theorem latB_iff (l : List Int) : latB l = true ↔ LatP l := by
  unfold latB LatP
  rw [Bool.and_eq_true, Bool.and_eq_true, List.all_eq_true, List.all_eq_true, beq_iff_eq]
  constructor
  · rintro ⟨⟨h1, h2⟩, h3⟩
    have hp : ∀ i, i < 24 → l.getD i 0 % 2 = l.getD 0 0 % 2 := by
      intro i hi
      have := h1 i (by simpa using hi)
      unfold parL at this
      rw [beq_iff_eq] at this
      exact this
    refine ⟨hp, ?_, h3⟩
    obtain ⟨r, hr⟩ := Int.eq_ofNat_of_zero_le (show 0 ≤ 2 + l.getD 0 0 % 2 by omega)
    rw [← rw4_aw hp (r := r) hr.symm]
    exact h2 r (by simp; omega)
  · rintro ⟨hp, hc, h3⟩
    refine ⟨⟨?_, ?_⟩, h3⟩
    · intro i hi
      unfold parL
      rw [beq_iff_eq]
      exact hp i (by simpa using hi)
    · intro r hr
      have hr4 : r < 4 := by simpa using hr
      by_cases h1 : (r : Int) = 2 + l.getD 0 0 % 2
      · rw [rw4_aw hp h1]; exact hc
      · by_cases h2 : (r : Int) = l.getD 0 0 % 2
        · rw [rw4_rest hp h2]
          exact codeB_xor (by omega) (aw_lt l) codeB_full hc
        · rw [rw4_none hp (by omega)]
          exact codeB_zero

/-- Sums with a + b at each place. -/
theorem sumTo_add {s l m : List Int} (h : ∀ i, i < 24 → s.getD i 0 = l.getD i 0 + m.getD i 0) (k : Nat) (hk : k ≤ 24) : sumTo s k = sumTo l k + sumTo m k := by
  induction k with
  | zero => rfl
  | succ k ih =>
    simp only [sumTo]
    rw [ih (by omega), h k (by omega)]
    omega
/-- The lattice is closed. -/
theorem latP_add {s l m : List Int} (h : ∀ i, i < 24 → s.getD i 0 = l.getD i 0 + m.getD i 0) (h1 : LatP l) (h2 : LatP m) : LatP s := by
  obtain ⟨p1, c1, s1⟩ := h1
  obtain ⟨p2, c2, s2⟩ := h2
  have h0 := h 0 (by omega)
  refine ⟨?_, ?_, ?_⟩
  · intro i hi
    have a1 := p1 i hi
    have a2 := p2 i hi
    rw [h i hi, h0]
    omega
  · by_cases hc : l.getD 0 0 % 2 = 1 ∧ m.getD 0 0 % 2 = 1
    · have e : aw s = 16777215 ^^^ (aw l ^^^ aw m) := by
        apply word_ext (aw_lt s) (Nat.xor_lt_two_pow (n := 24) (by omega) (Nat.xor_lt_two_pow (n := 24) (aw_lt l) (aw_lt m)))
        intro i hi
        have a1 := p1 i hi
        have a2 := p2 i hi
        have hf : (16777215 : Nat).testBit i = true := by
          rw [show (16777215 : Nat) = 2 ^ 24 - 1 by decide, Nat.testBit_two_pow_sub_one]
          simp [hi]
        rw [Nat.testBit_xor, Nat.testBit_xor, hf, aw_bit s i hi, aw_bit l i hi, aw_bit m i hi, h i hi]
        generalize l.getD i 0 = x at *
        generalize m.getD i 0 = y at *
        by_cases x1 : x / 2 % 2 = 1 <;> by_cases y1 : y / 2 % 2 = 1 <;> simp [x1, y1] <;> omega
      rw [e]
      exact codeB_xor (by omega) (Nat.xor_lt_two_pow (n := 24) (aw_lt l) (aw_lt m)) codeB_full (codeB_xor (aw_lt l) (aw_lt m) c1 c2)
    · have e : aw s = aw l ^^^ aw m := by
        apply word_ext (aw_lt s) (Nat.xor_lt_two_pow (n := 24) (aw_lt l) (aw_lt m))
        intro i hi
        have a1 := p1 i hi
        have a2 := p2 i hi
        rw [Nat.testBit_xor, aw_bit s i hi, aw_bit l i hi, aw_bit m i hi, h i hi]
        generalize l.getD i 0 = x at *
        generalize m.getD i 0 = y at *
        by_cases x1 : x / 2 % 2 = 1 <;> by_cases y1 : y / 2 % 2 = 1 <;> simp [x1, y1] <;> omega
      rw [e]
      exact codeB_xor (aw_lt l) (aw_lt m) c1 c2
  · rw [sumTo_add h 24 (Nat.le_refl _), h0]
    omega

/-- How often both halves are odd. -/
def bothTo (l m : List Int) : Nat → Int
  | 0 => 0
  | k + 1 => bothTo l m k + l.getD k 0 / 2 % 2 * (m.getD k 0 / 2 % 2)
theorem half_bit (l : List Int) (k : Nat) (hk : k < 24) : ((bitN (aw l) k : Nat) : Int) = l.getD k 0 / 2 % 2 := by
  unfold aw
  rw [bitN_word _ _ _ hk]
  generalize l.getD k 0 = x
  by_cases h : x / 2 % 2 = 1
  · rw [h]; rfl
  · rw [if_neg (by rw [decide_eq_true_eq]; exact h)]
    omega
theorem bitN_and (x y k : Nat) : bitN (x &&& y) k = bitN x k * bitN y k := by
  have h : (x &&& y).testBit k = (x.testBit k && y.testBit k) := Nat.testBit_and x y k
  cases hx : x.testBit k <;> cases hy : y.testBit k
  all_goals
    rw [hx, hy] at h
    first
      | rw [bitN_true h]
      | rw [bitN_false h]
    first
      | rw [bitN_true hx]
      | rw [bitN_false hx]
    first
      | rw [bitN_true hy]
      | rw [bitN_false hy]
theorem both_wt (l m : List Int) (k : Nat) (hk : k ≤ 24) : bothTo l m k = (wtTo (aw l &&& aw m) k : Nat) := by
  induction k with
  | zero => rfl
  | succ k ih =>
    have e : wtTo (aw l &&& aw m) (k + 1) = wtTo (aw l &&& aw m) k + bitN (aw l &&& aw m) k := rfl
    rw [e, bitN_and]
    simp only [bothTo]
    rw [ih (by omega), ← half_bit l k (by omega), ← half_bit m k (by omega)]
    push_cast
    rfl
theorem both_self (l : List Int) (k : Nat) (hk : k ≤ 24) : bothTo l l k = (wtTo (aw l) k : Nat) := by
  rw [both_wt l l k hk, Nat.and_self]

/-- Sums by halves. -/
def quTo (l : List Int) : Nat → Int
  | 0 => 0
  | k + 1 => quTo l k + l.getD k 0 / 4
theorem sum_split {l : List Int} (hp : ∀ i, i < 24 → l.getD i 0 % 2 = l.getD 0 0 % 2) (k : Nat) (hk : k ≤ 24) :
    sumTo l k = (l.getD 0 0 % 2) * k + 2 * bothTo l l k + 4 * quTo l k := by
  induction k with
  | zero => simp [sumTo, bothTo, quTo]
  | succ k ih =>
    have a := hp k (by omega)
    have ih := ih (by omega)
    simp only [sumTo, bothTo, quTo]
    rw [ih]
    have h2 : l.getD k 0 / 2 % 2 = 0 ∨ l.getD k 0 / 2 % 2 = 1 := by omega
    have h3 : l.getD 0 0 % 2 = 0 ∨ l.getD 0 0 % 2 = 1 := by omega
    generalize bothTo l l k = B at *
    generalize quTo l k = Q at *
    generalize l.getD k 0 = x at *
    generalize l.getD 0 0 % 2 = o at *
    rcases h3 with rfl | rfl <;> rcases h2 with h2 | h2 <;> rw [h2] <;> omega
theorem prod_split (x y : Int) : ∃ R, x * y = (x % 2) * (y % 2) + 2 * (x % 2) * (y / 2 % 2) + 2 * (y % 2) * (x / 2 % 2) + 4 * (x % 2) * (y / 4) + 4 * (y % 2) * (x / 4) + 4 * ((x / 2 % 2) * (y / 2 % 2)) + 8 * R := by
  refine ⟨(x / 2 % 2) * (y / 4) + (y / 2 % 2) * (x / 4) + 2 * (x / 4) * (y / 4), ?_⟩
  have ex : x = x % 2 + 2 * (x / 2 % 2) + 4 * (x / 4) := by omega
  have ey : y = y % 2 + 2 * (y / 2 % 2) + 4 * (y / 4) := by omega
  generalize x % 2 = a at *
  generalize x / 2 % 2 = b at *
  generalize x / 4 = c at *
  generalize y % 2 = a' at *
  generalize y / 2 % 2 = b' at *
  generalize y / 4 = c' at *
  subst ex
  subst ey
  grind
theorem dot_split {l m : List Int} (hp : ∀ i, i < 24 → l.getD i 0 % 2 = l.getD 0 0 % 2) (hq : ∀ i, i < 24 → m.getD i 0 % 2 = m.getD 0 0 % 2) (k : Nat) (hk : k ≤ 24) :
    ∃ R, dotTo l m k = (l.getD 0 0 % 2) * (m.getD 0 0 % 2) * k + 2 * (l.getD 0 0 % 2) * bothTo m m k + 2 * (m.getD 0 0 % 2) * bothTo l l k
      + 4 * (l.getD 0 0 % 2) * quTo m k + 4 * (m.getD 0 0 % 2) * quTo l k + 4 * bothTo l m k + 8 * R := by
  induction k with
  | zero => exact ⟨0, by simp [dotTo, bothTo, quTo]⟩
  | succ k ih =>
    obtain ⟨R, ih⟩ := ih (by omega)
    obtain ⟨S, hS⟩ := prod_split (l.getD k 0) (m.getD k 0)
    refine ⟨R + S, ?_⟩
    simp only [dotTo, bothTo, quTo]
    rw [ih, hS, hp k (by omega), hq k (by omega)]
    have hx : l.getD k 0 / 2 % 2 * (l.getD k 0 / 2 % 2) = l.getD k 0 / 2 % 2 := by
      have : l.getD k 0 / 2 % 2 = 0 ∨ l.getD k 0 / 2 % 2 = 1 := by omega
      rcases this with h | h <;> rw [h] <;> rfl
    have hy : m.getD k 0 / 2 % 2 * (m.getD k 0 / 2 % 2) = m.getD k 0 / 2 % 2 := by
      have : m.getD k 0 / 2 % 2 = 0 ∨ m.getD k 0 / 2 % 2 = 1 := by omega
      rcases this with h | h <;> rw [h] <;> rfl
    rw [hx, hy]
    push_cast
    grind
/-- Inner products in the lattice are multiples of 8. -/
theorem latP_dot {l m : List Int} (h1 : LatP l) (h2 : LatP m) : dotTo l m 24 % 8 = 0 := by
  obtain ⟨p1, c1, s1⟩ := h1
  obtain ⟨p2, c2, s2⟩ := h2
  obtain ⟨R, hR⟩ := dot_split p1 p2 24 (Nat.le_refl _)
  have e1 := sum_split p1 24 (Nat.le_refl _)
  have e2 := sum_split p2 24 (Nat.le_refl _)
  have w1 := codeB_wt (aw_lt l) c1
  have w2 := codeB_wt (aw_lt m) c2
  have w3 := codeB_pr (aw_lt l) (aw_lt m) c1 c2
  have b1 := both_self l 24 (Nat.le_refl _)
  have b2 := both_self m 24 (Nat.le_refl _)
  have b3 := both_wt l m 24 (Nat.le_refl _)
  change bothTo l l 24 = ((wt (aw l) : Nat) : Int) at b1
  change bothTo m m 24 = ((wt (aw m) : Nat) : Int) at b2
  change bothTo l m 24 = ((wt (aw l &&& aw m) : Nat) : Int) at b3
  unfold pr at w3
  have h3 : l.getD 0 0 % 2 = 0 ∨ l.getD 0 0 % 2 = 1 := by omega
  have h4 : m.getD 0 0 % 2 = 0 ∨ m.getD 0 0 % 2 = 1 := by omega
  rw [hR]
  rw [e1] at s1
  rw [e2] at s2
  rw [b1] at s1 ⊢
  rw [b2] at s2 ⊢
  rw [b3]
  generalize l.getD 0 0 % 2 = o at *
  generalize m.getD 0 0 % 2 = p at *
  rcases h3 with rfl | rfl <;> rcases h4 with rfl | rfl <;> omega

/-- Squares. -/
theorem sq_even (c : Int) : c * c % 2 = c % 2 := by
  rw [Int.mul_emod]
  have : c % 2 = 0 ∨ c % 2 = 1 := by omega
  rcases this with h | h <;> rw [h] <;> rfl
theorem sq_next (c : Int) : 0 ≤ c * c + c := by
  by_cases h : 0 ≤ c
  · have := Int.mul_nonneg h h
    omega
  · have h1 : 0 ≤ -c := by omega
    have h2 : 0 ≤ -c - 1 := by omega
    have := Int.mul_nonneg h1 h2
    grind
theorem sq_pos (c : Int) : 0 ≤ c * c := by
  by_cases h : 0 ≤ c
  · exact Int.mul_nonneg h h
  · have h1 : 0 ≤ -c := by omega
    have := Int.mul_nonneg h1 h1
    grind
theorem sq_split (x : Int) (o : Int) (ho : x % 2 = o) : ∃ R, x * x = o + 4 * (x / 2 % 2) + 4 * o * (x / 2 % 2) + 8 * o * (x / 4) + 16 * R ∧ 0 ≤ R ∧ (x / 2 % 2 = 0 → R % 2 = x / 4 % 2) := by
  have ex : x = x % 2 + 2 * (x / 2 % 2) + 4 * (x / 4) := by omega
  have h2 : x / 2 % 2 = 0 ∨ x / 2 % 2 = 1 := by omega
  have h3 : x % 2 = 0 ∨ x % 2 = 1 := by omega
  subst ho
  generalize x % 2 = a at *
  generalize x / 2 % 2 = b at *
  generalize x / 4 = c at *
  subst ex
  have q1 := sq_pos c
  have q2 := sq_next c
  have q3 := sq_even c
  rcases h3 with rfl | rfl <;> rcases h2 with rfl | rfl
  · exact ⟨c * c, by grind, q1, fun _ => q3⟩
  · exact ⟨c * c + c, by grind, q2, fun h => by omega⟩
  · exact ⟨c * c, by grind, q1, fun _ => q3⟩
  · exact ⟨c * c + c, by grind, q2, fun h => by omega⟩
theorem both_nonneg (l : List Int) (k : Nat) (hk : k ≤ 24) : 0 ≤ bothTo l l k := by
  rw [both_self l k hk]
  exact Int.natCast_nonneg _
theorem norm_split {l : List Int} (hp : ∀ i, i < 24 → l.getD i 0 % 2 = l.getD 0 0 % 2) (k : Nat) (hk : k ≤ 24) :
    ∃ R, dotTo l l k = (l.getD 0 0 % 2) * k + 4 * bothTo l l k + 4 * (l.getD 0 0 % 2) * bothTo l l k + 8 * (l.getD 0 0 % 2) * quTo l k + 16 * R
      ∧ 0 ≤ R ∧ (bothTo l l k = 0 → R % 2 = quTo l k % 2) := by
  induction k with
  | zero => exact ⟨0, by simp [dotTo, bothTo, quTo], by omega, fun _ => rfl⟩
  | succ k ih =>
    obtain ⟨R, ih, hR0, hR2⟩ := ih (by omega)
    obtain ⟨S, hS, hS0, hS2⟩ := sq_split (l.getD k 0) _ (hp k (by omega))
    have hn := both_nonneg l k (by omega)
    have hb : l.getD k 0 / 2 % 2 * (l.getD k 0 / 2 % 2) = l.getD k 0 / 2 % 2 := by
      have : l.getD k 0 / 2 % 2 = 0 ∨ l.getD k 0 / 2 % 2 = 1 := by omega
      rcases this with h | h <;> rw [h] <;> rfl
    refine ⟨R + S, ?_, by omega, ?_⟩
    · simp only [dotTo, bothTo, quTo]
      rw [ih, hS, hb]
      push_cast
      grind
    · simp only [bothTo, quTo]
      rw [hb]
      intro h
      have h1 : bothTo l l k = 0 := by omega
      have h2 : l.getD k 0 / 2 % 2 = 0 := by omega
      have := hR2 h1
      have := hS2 h2
      omega
theorem norm_odd {l : List Int} (hp : ∀ i, i < 24 → l.getD i 0 % 2 = 1) (k : Nat) (hk : k ≤ 24) : (k : Int) ≤ dotTo l l k := by
  induction k with
  | zero => simp [dotTo]
  | succ k ih =>
    have ih := ih (by omega)
    have h := hp k (by omega)
    simp only [dotTo]
    have h1 : 1 ≤ l.getD k 0 * l.getD k 0 := by
      generalize l.getD k 0 = x at *
      have h2 := sq_pos x
      have h3 := sq_even x
      omega
    push_cast
    omega
/-- Squares of the lattice. -/
theorem latP_norm {l : List Int} (h : LatP l) : dotTo l l 24 % 16 = 0 ∧ dotTo l l 24 ≠ 16 := by
  obtain ⟨p1, c1, s1⟩ := h
  obtain ⟨R, hR, hR0, hR2⟩ := norm_split p1 24 (Nat.le_refl _)
  have e1 := sum_split p1 24 (Nat.le_refl _)
  have w1 := codeB_wt (aw_lt l) c1
  have b1 := both_self l 24 (Nat.le_refl _)
  change bothTo l l 24 = ((wt (aw l) : Nat) : Int) at b1
  have h3 : l.getD 0 0 % 2 = 0 ∨ l.getD 0 0 % 2 = 1 := by omega
  have ho : l.getD 0 0 % 2 = 1 → (24 : Int) ≤ dotTo l l 24 := fun h => norm_odd (fun i hi => by rw [p1 i hi, h]) 24 (Nat.le_refl _)
  rw [hR] at ho ⊢
  rw [e1] at s1
  rw [b1] at s1 hR2 ho ⊢
  generalize l.getD 0 0 % 2 = o at *
  rcases h3 with rfl | rfl
  · constructor <;> omega
  · have := ho rfl
    constructor <;> omega

theorem getD_elem (l : List Int) (i : Nat) (h : i < l.length) : l.getD i 0 = l[i] := by simp [List.getD, h]
/-- Signs on a word of the code. -/
theorem flipV_flipV (l : List Int) (w : Nat) (hl : l.length = 24) : flipV (flipV l w) w = l := by
  apply List.ext_getElem (by rw [flipV_length, hl])
  intro i h1 h2
  have hi : i < 24 := by omega
  have e1 := flipV_get (flipV l w) w i hi
  rw [flipV_get l w i hi] at e1
  have e3 : (flipV (flipV l w) w).getD i 0 = (flipV (flipV l w) w)[i] := getD_elem _ i h1
  have e4 : l.getD i 0 = l[i] := getD_elem _ i h2
  refine e3.symm.trans (Eq.trans ?_ e4)
  rw [e1]
  split
  · exact Int.neg_neg _
  · rfl
theorem dot_flip (l : List Int) (w : Nat) (k : Nat) (hk : k ≤ 24) : dotTo (flipV l w) (flipV l w) k = dotTo l l k := by
  induction k with
  | zero => rfl
  | succ k ih =>
    simp only [dotTo]
    rw [ih (by omega), flipV_get l w k (by omega)]
    split
    · rw [Int.neg_mul_neg]
    · rfl
theorem flip_sum {l : List Int} (hp : ∀ i, i < 24 → l.getD i 0 % 2 = l.getD 0 0 % 2) (w : Nat) (k : Nat) (hk : k ≤ 24) :
    ∃ R, sumTo (flipV l w) k = sumTo l k - 2 * (l.getD 0 0 % 2) * (wtTo w k : Nat) - 4 * (wtTo (w &&& aw l) k : Nat) - 8 * R := by
  induction k with
  | zero => exact ⟨0, by simp [sumTo, wtTo]⟩
  | succ k ih =>
    obtain ⟨R, ih⟩ := ih (by omega)
    have e : wtTo (w &&& aw l) (k + 1) = wtTo (w &&& aw l) k + bitN (w &&& aw l) k := rfl
    have e' : wtTo w (k + 1) = wtTo w k + bitN w k := rfl
    have hh := half_bit l k (by omega)
    have ha := hp k (by omega)
    rw [e, e', bitN_and]
    simp only [sumTo]
    rw [ih, flipV_get l w k (by omega)]
    cases hb : w.testBit k
    · rw [bitN_false hb]
      refine ⟨R, ?_⟩
      rw [if_neg (by simp), Nat.zero_mul, Nat.add_zero, Nat.add_zero]
      omega
    · rw [bitN_true hb, if_pos rfl, Nat.one_mul]
      refine ⟨R + l.getD k 0 / 4, ?_⟩
      push_cast
      rw [hh]
      generalize l.getD k 0 = x at *
      have h3 : l.getD 0 0 % 2 = 0 ∨ l.getD 0 0 % 2 = 1 := by omega
      generalize l.getD 0 0 % 2 = o at *
      rcases h3 with rfl | rfl <;> omega
theorem latP_flip {l : List Int} {w : Nat} (hw : w < 16777216) (hc : codeB w = true) (h : LatP l) : LatP (flipV l w) := by
  obtain ⟨p1, c1, s1⟩ := h
  have g0 := flipV_get l w 0 (by omega)
  have par : ∀ i, i < 24 → (flipV l w).getD i 0 % 2 = l.getD i 0 % 2 := by
    intro i hi
    rw [flipV_get l w i hi]
    split
    · omega
    · rfl
  have h3 : l.getD 0 0 % 2 = 0 ∨ l.getD 0 0 % 2 = 1 := by omega
  refine ⟨?_, ?_, ?_⟩
  · intro i hi
    rw [par i hi, par 0 (by omega)]
    exact p1 i hi
  · rcases h3 with h3 | h3
    · have e : aw (flipV l w) = aw l := by
        apply word_ext (aw_lt _) (aw_lt l)
        intro i hi
        have a1 := p1 i hi
        rw [aw_bit _ i hi, aw_bit l i hi, flipV_get l w i hi]
        split
        · rw [decide_eq_decide]; omega
        · rfl
      rw [e]
      exact c1
    · have e : aw (flipV l w) = aw l ^^^ w := by
        apply word_ext (aw_lt _) (Nat.xor_lt_two_pow (n := 24) (aw_lt l) hw)
        intro i hi
        have a1 := p1 i hi
        rw [Nat.testBit_xor, aw_bit _ i hi, aw_bit l i hi, flipV_get l w i hi]
        cases hb : w.testBit i
        · simp
        · simp only [if_pos, Bool.bne_true]
          rw [← decide_not, decide_eq_decide]
          omega
      rw [e]
      exact codeB_xor (aw_lt l) hw c1 hc
  · obtain ⟨R, hR⟩ := flip_sum p1 w 24 (Nat.le_refl _)
    have w1 := codeB_wt hw hc
    have w3 := codeB_pr hw (aw_lt l) hc c1
    unfold pr at w3
    unfold wt at w1 w3
    rw [hR, par 0 (by omega)]
    generalize wtTo w 24 = a at *
    generalize wtTo (w &&& aw l) 24 = b at *
    rcases h3 with h3 | h3 <;> rw [h3] at s1 ⊢ <;> omega
theorem latB_flip {l : List Int} {w : Nat} (hl : l.length = 24) (hw : w < 16777216) (hc : codeB w = true) : latB (flipV l w) = latB l := by
  rw [Bool.eq_iff_iff, latB_iff, latB_iff]
  constructor
  · intro h
    have := latP_flip hw hc h
    rw [flipV_flipV l w hl] at this
    exact this
  · exact latP_flip hw hc

end Go.Proofs.YteedbejlbjfkgaaGreat.Res

/- Plain law: the lattice by the words of the rests. -/
namespace Go.Proofs.YteedbejlbjfkgaaGreat.Res

theorem rw4_zero (l : List Int) (r k : Nat) : rw4 l r k = 0 ↔ ∀ i, i < k → (l.getD i 0 % 4).toNat ≠ r := by
  induction k with
  | zero => simp [rw4]
  | succ k ih =>
    have hp : (2 : Nat) ^ k ≠ 0 := Nat.pos_iff_ne_zero.1 (Nat.two_pow_pos k)
    simp only [rw4]
    split
    · next h =>
      constructor
      · intro e
        have : (rw4 l r k ||| 2 ^ k).testBit k = true := by rw [Nat.testBit_or, Nat.testBit_two_pow]; simp
        rw [e] at this
        simp at this
      · intro e
        exact absurd h.symm (e k (by omega))
    · next h =>
      rw [ih]
      constructor
      · intro e i hi
        by_cases hk : i = k
        · subst hk; exact fun h' => h h'.symm
        · exact e i (by omega)
      · intro e i hi
        exact e i (by omega)
theorem rw4_bit (l : List Int) (r k : Nat) : (rw4 l r k).testBit k = false := Nat.testBit_lt_two_pow (rw4_lt l r k)
theorem rw4_add (l : List Int) (k : Nat) : (fun r => rw4 l r (k + 1)) = fun r => if r = (l.getD k 0 % 4).toNat then rw4 l r k + 2 ^ k else rw4 l r k := by
  funext r
  show (if _ then _ else _) = _
  rw [add_bit (rw4_bit l r k)]

theorem code_zero : codeB 0 = true := by decide +kernel

theorem par_words {l : List Int} {o : Nat} (ho : l.getD 0 0 % 2 = (o : Int)) : (List.range 24).all (parL l) = true ↔ rw4 l (1 - o) 24 = 0 ∧ rw4 l (3 - o) 24 = 0 := by
  have h2 : o < 2 := by omega
  rw [List.all_eq_true, rw4_zero, rw4_zero]
  constructor
  · intro h
    refine ⟨fun i hi => ?_, fun i hi => ?_⟩
    all_goals
      have := h i (by simpa using hi)
      unfold parL at this
      rw [beq_iff_eq, ho] at this
      omega
  · rintro ⟨h1, h3⟩ i hi
    have hi' : i < 24 := by simpa using hi
    have a := h1 i hi'
    have b := h3 i hi'
    unfold parL
    rw [beq_iff_eq, ho]
    omega

theorem latB_words {l : List Int} {o : Nat} (ho : l.getD 0 0 % 2 = (o : Int)) (h1 : rw4 l (1 - o) 24 = 0) (h3 : rw4 l (3 - o) 24 = 0) :
    latB l = (codeB (rw4 l o 24) && codeB (rw4 l (2 + o) 24) && sumTo l 24 % 8 == 4 * (o : Int)) := by
  have hp := (par_words ho).2 ⟨h1, h3⟩
  unfold latB
  rw [hp, Bool.true_and, ho]
  congr 1
  have h2 : o < 2 := by omega
  match o, h2 with
  | 0, _ => simp only [Nat.sub_zero] at h1 h3; simp [List.range_succ, h1, h3, code_zero]
  | 1, _ => simp only [Nat.sub_self] at h1; simp [List.range_succ, h1, h3, code_zero]
theorem latB_not {l : List Int} {o : Nat} (ho : l.getD 0 0 % 2 = (o : Int)) (h : ¬ (rw4 l (1 - o) 24 = 0 ∧ rw4 l (3 - o) 24 = 0)) : latB l = false := by
  have hp : (List.range 24).all (parL l) = false := by
    rw [Bool.eq_false_iff]
    exact fun e => h ((par_words ho).1 e)
  unfold latB
  rw [hp]
  rfl

end Go.Proofs.YteedbejlbjfkgaaGreat.Res

