/- Plain laws on lists of bytes: pieces between a byte, what lies before and behind it, numbers. -/
import Derived.Lib.SplitLaws
import Derived.Lib.IndexMore
import Derived.Lib.Atoi
import Derived.Lib.SlTrimSet
import Derived.Lib.ItoaNum
set_option linter.unusedVariables false
namespace Go.Proofs.YtmgdcnibmifdeaaGreatDoor.Res

/-- The pieces between the instances of a byte. -/
def spl (c : UInt8) : List UInt8 → List (List UInt8)
  | [] => [[]]
  | b :: l => if b = c then [] :: spl c l else
      match spl c l with
      | [] => [[b]]
      | p :: ps => (b :: p) :: ps
theorem spl_ne (c : UInt8) (l : List UInt8) : spl c l ≠ [] := by
  cases l with
  | nil => simp [spl]
  | cons b l =>
    unfold spl
    split
    · simp
    · split <;> simp
theorem spl_hit (c : UInt8) (l : List UInt8) : spl c (c :: l) = [] :: spl c l := by simp [spl]
theorem spl_cons {c b : UInt8} (h : b ≠ c) {l p : List UInt8} {ps : List (List UInt8)} (e : spl c l = p :: ps) : spl c (b :: l) = (b :: p) :: ps := by
  simp [spl, h, e]
theorem prefix_one (c b : UInt8) (l : List UInt8) : List.isPrefixOf [c] (b :: l) = (c == b) := by simp [List.isPrefixOf]
theorem index_hit (c : UInt8) (l : List UInt8) : Lib.index (c :: l) [c] = 0 := by
  unfold Lib.index
  rw [prefix_one]
  simp
theorem index_cons {b c : UInt8} (h : b ≠ c) (l : List UInt8) : Lib.index (b :: l) [c] = if Lib.index l [c] = -1 then -1 else Lib.index l [c] + 1 := by
  have hb : (c == b) = false := by rw [beq_eq_false_iff_ne]; exact fun e => h e.symm
  rw [Lib.index, prefix_one, hb]
  by_cases h2 : Lib.index l [c] = -1
  · rw [if_pos h2]; simp [h2]
  · rw [if_neg h2]; simp [h2]
theorem split_spl (c : UInt8) (l : List UInt8) : Lib.splitK [c] 0 (Lib.count l [c]) l = spl c l := by
  induction l with
  | nil => rw [Lib.count_one]; rfl
  | cons b l ih =>
    by_cases h : b = c
    · subst h
      rw [Lib.count_cons_eq, Nat.add_comm, Lib.splitK, index_hit, spl_hit, ← ih]
      simp
    · rw [Lib.count_cons_ne b c l h]
      cases hk : Lib.count l [c] with
      | zero =>
        rw [hk] at ih
        have e : spl c l = [l] := ih.symm
        rw [spl_cons h e]
        rfl
      | succ k =>
        rw [hk] at ih
        have hi : Lib.index l [c] ≠ -1 := fun e => by
          have := Lib.count_miss e
          omega
        have hge := Lib.index_ge l [c]
        have h1 : ¬ (Lib.index l [c] == -1) = true := fun e => hi (beq_iff_eq.1 e)
        have h2 : ¬ (Lib.index (b :: l) [c] == -1) = true := fun e => by
          have := beq_iff_eq.1 e
          rw [index_cons h, if_neg hi] at this
          omega
        rw [Lib.splitK, if_neg h1] at ih
        rw [Lib.splitK, if_neg h2, index_cons h, if_neg hi, spl_cons h ih.symm]
        generalize hj : (Lib.index l [c]).toNat = j
        have e2 : (Lib.index l [c] + 1).toNat = j + 1 := by omega
        rw [e2]
        congr 1
theorem pieces_data (s : ByteArray) (c : UInt8) : (Lib.splitB ⟨#[c]⟩ 0 (Lib.countB s ⟨#[c]⟩) s).map (·.data.toList) = spl c s.data.toList := by
  rw [Lib.splitB_data]
  exact split_spl c s.data.toList
/-- What lies before a byte, and behind it, and whether it is there. -/
def cutL (c : UInt8) : List UInt8 → List UInt8 × List UInt8 × Bool
  | [] => ([], [], false)
  | b :: l => if b = c then ([], l, true) else (b :: (cutL c l).1, (cutL c l).2)
theorem cut_cutL (c : UInt8) (l : List UInt8) : Lib.cut l [c] = cutL c l := by
  induction l with
  | nil => rfl
  | cons b l ih =>
    by_cases h : b = c
    · subst h
      unfold Lib.cut
      rw [index_hit]
      simp [cutL]
    · have hge := Lib.index_ge l [c]
      simp only [cutL, if_neg h]
      rw [← ih]
      unfold Lib.cut
      rw [index_cons h]
      by_cases hi : Lib.index l [c] = -1
      · rw [if_pos hi, hi]
        simp
      · rw [if_neg hi, if_pos (by omega), if_pos (by omega)]
        generalize hj : (Lib.index l [c]).toNat = j
        have e2 : (Lib.index l [c] + 1).toNat = j + 1 := by omega
        rw [e2]
        congr 1

def isD (b : UInt8) : Bool := Nat.ble 48 b.toNat && Nat.ble b.toNat 57
theorem isD_iff {b : UInt8} : isD b = true ↔ 48 ≤ b.toNat ∧ b.toNat ≤ 57 := by
  unfold isD
  rw [Bool.and_eq_true]
  exact ⟨fun h => ⟨Nat.le_of_ble_eq_true h.1, Nat.le_of_ble_eq_true h.2⟩, fun h => ⟨Nat.ble_eq_true_of_le h.1, Nat.ble_eq_true_of_le h.2⟩⟩
def digs : List UInt8 := [48, 49, 50, 51, 52, 53, 54, 55, 56, 57]
theorem digs_isD : ∀ n : Nat, n < 256 → digs.contains (UInt8.ofNat n) = isD (UInt8.ofNat n) := by decide +kernel
theorem digs_mem (b : UInt8) : digs.contains b = isD b := by
  have := digs_isD b.toNat b.toNat_lt
  rw [UInt8.ofNat_toNat] at this
  exact this
theorem dropWhile_nil {α : Type} (p : α → Bool) (l : List α) : l.dropWhile p = [] ↔ l.all p = true := by
  induction l with
  | nil => simp
  | cons a l ih =>
    by_cases h : p a = true
    · rw [List.dropWhile_cons_of_pos h, ih]; simp [h]
    · rw [List.dropWhile_cons_of_neg h]; simp [h]
theorem dropWhile_all {α : Type} (p : α → Bool) (l : List α) (h : (l.dropWhile p).all p = true) : l.dropWhile p = [] := by
  induction l with
  | nil => rfl
  | cons a l ih =>
    by_cases ha : p a = true
    · rw [List.dropWhile_cons_of_pos ha] at h ⊢
      exact ih h
    · rw [List.dropWhile_cons_of_neg ha] at h
      simp [ha] at h
theorem trim_nil (l cs : List UInt8) : Lib.trimS l cs = [] ↔ l.all (cs.contains ·) = true := by
  unfold Lib.trimS Lib.trimLeftS Lib.trimRightS
  rw [dropWhile_nil, List.all_reverse]
  constructor
  · intro h
    have h1 := dropWhile_all _ _ h
    rw [dropWhile_nil, List.all_reverse] at h1
    exact h1
  · intro h
    have h1 : l.reverse.dropWhile (cs.contains ·) = [] := by rw [dropWhile_nil, List.all_reverse]; exact h
    rw [h1]
    rfl
/-- The value of digits. -/
def numTo (acc : Nat) (l : List UInt8) : Nat := l.foldl (fun n b => 10 * n + (b.toNat - 48)) acc
def numV (l : List UInt8) : Nat := numTo 0 l
theorem decFrom_num (l : List UInt8) (acc : Nat) (h : l.all isD = true) : Lib.decFrom acc l = some (numTo acc l) := by
  induction l generalizing acc with
  | nil => rfl
  | cons b l ih =>
    rw [List.all_cons, Bool.and_eq_true] at h
    obtain ⟨h1, h2⟩ := isD_iff.1 h.1
    have hd : Lib.digitVal b = some (b.toNat - 48) := by
      unfold Lib.digitVal
      first
        | rw [if_pos ⟨h1, h2⟩]
        | simp [h1, h2]
    simp only [Lib.decFrom, hd]
    rw [ih _ h.2]
    unfold numTo
    simp only [List.foldl_cons]
    rw [Nat.mul_comm acc 10]
theorem atoi_num {l : List UInt8} (h0 : 0 < l.length) (h : l.all isD = true) : Lib.atoi l = some ((numV l : Nat) : Int) := by
  cases l with
  | nil => simp at h0
  | cons b l =>
    have hb := h
    rw [List.all_cons, Bool.and_eq_true] at hb
    obtain ⟨h1, h2⟩ := isD_iff.1 hb.1
    have n1 : (b == 45) = false := by
      rw [beq_eq_false_iff_ne]
      rintro rfl
      revert h1; decide
    have n2 : (b == 43) = false := by
      rw [beq_eq_false_iff_ne]
      rintro rfl
      revert h1; decide
    have hd : Lib.decNat (b :: l) = some (numV (b :: l)) := by
      unfold Lib.decNat
      simp only [List.isEmpty_cons, Bool.false_eq_true, if_false]
      exact decFrom_num _ 0 h
    simp [Lib.atoi, n1, n2, hd]
theorem numTo_lt (l : List UInt8) (acc : Nat) (h : l.all isD = true) : numTo acc l < (acc + 1) * 10 ^ l.length := by
  induction l generalizing acc with
  | nil => simp [numTo]
  | cons b l ih =>
    rw [List.all_cons, Bool.and_eq_true] at h
    obtain ⟨h1, h2⟩ := isD_iff.1 h.1
    have h3 := ih (10 * acc + (b.toNat - 48)) h.2
    have e : numTo acc (b :: l) = numTo (10 * acc + (b.toNat - 48)) l := rfl
    rw [e, List.length_cons, Nat.pow_succ]
    have h4 : (10 * acc + (b.toNat - 48) + 1) * 10 ^ l.length ≤ (10 * (acc + 1)) * 10 ^ l.length := Nat.mul_le_mul_right _ (by omega)
    have h5 : (acc + 1) * (10 ^ l.length * 10) = (10 * (acc + 1)) * 10 ^ l.length := by rw [Nat.mul_comm (10 ^ l.length) 10, ← Nat.mul_assoc, Nat.mul_comm (acc + 1) 10]
    omega
theorem numV_lt {l : List UInt8} (h8 : l.length ≤ 8) (h : l.all isD = true) : numV l < 100000000 := by
  have h1 := numTo_lt l 0 h
  have h2 : 10 ^ l.length ≤ 10 ^ 8 := Nat.pow_le_pow_right (by omega) h8
  unfold numV
  omega
/-- A field that is a number. -/
def numF (f : List UInt8) : Option Nat := if (1 ≤ f.length ∧ f.length ≤ 8) ∧ f.all isD = true then some (numV f) else none
def numsL : List (List UInt8) → Option (List Nat)
  | [] => some []
  | f :: r => match numF f, numsL r with
    | some n, some l => some (n :: l)
    | _, _ => none
/-- The numbers of a text, if all its fields are numbers. -/
def nums (s : List UInt8) : Option (List Nat) := numsL (spl 32 s)
theorem numF_lt {f : List UInt8} {n : Nat} (h : numF f = some n) : n < 100000000 := by
  unfold numF at h
  split at h
  · rename_i hc
    simp only [Option.some.injEq] at h
    rw [← h]
    exact numV_lt hc.1.2 hc.2
  · cases h
theorem numsL_snoc (r : List (List UInt8)) (f : List UInt8) : numsL (r ++ [f]) = match numsL r, numF f with
    | some l, some n => some (l ++ [n])
    | _, _ => none := by
  induction r with
  | nil =>
    simp only [List.nil_append, numsL]
    cases numF f <;> rfl
  | cons g r ih =>
    simp only [List.cons_append, numsL, ih]
    cases numF g <;> cases numsL r <;> cases numF f <;> rfl
theorem numsL_length {r : List (List UInt8)} {l : List Nat} (h : numsL r = some l) : l.length = r.length := by
  induction r generalizing l with
  | nil => simp only [numsL, Option.some.injEq] at h; rw [← h]; rfl
  | cons f r ih =>
    simp only [numsL] at h
    cases hf : numF f with
    | none => rw [hf] at h; cases h
    | some n =>
      cases hr : numsL r with
      | none => rw [hf, hr] at h; cases h
      | some k =>
        rw [hf, hr] at h
        simp only [Option.some.injEq] at h
        rw [← h, List.length_cons, List.length_cons, ih hr]
theorem numsL_lt {r : List (List UInt8)} {l : List Nat} (h : numsL r = some l) : ∀ n, n ∈ l → n < 100000000 := by
  induction r generalizing l with
  | nil =>
    simp only [numsL, Option.some.injEq] at h
    rw [← h]; simp
  | cons f r ih =>
    simp only [numsL] at h
    cases hf : numF f with
    | none => rw [hf] at h; cases h
    | some n =>
      cases hr : numsL r with
      | none => rw [hf, hr] at h; cases h
      | some k =>
        rw [hf, hr] at h
        simp only [Option.some.injEq] at h
        rw [← h]
        intro m hm
        rcases List.mem_cons.1 hm with e | e
        · rw [e]; exact numF_lt hf
        · exact ih hr m e
theorem numsL_none {r : List (List UInt8)} {f : List UInt8} (hf : f ∈ r) (h : numF f = none) : numsL r = none := by
  induction r with
  | nil => simp at hf
  | cons g r ih =>
    rcases List.mem_cons.1 hf with e | e
    · rw [← e]
      simp only [numsL, h]
    · simp only [numsL, ih e]
      cases numF g <;> rfl
theorem spl_length (c : UInt8) (l : List UInt8) : (spl c l).length ≤ l.length + 1 := by
  induction l with
  | nil => simp [spl]
  | cons b l ih =>
    by_cases h : b = c
    · subst h; rw [spl_hit]; simp; exact ih
    · cases hs : spl c l with
      | nil => exact absurd hs (spl_ne c l)
      | cons p ps =>
        rw [hs] at ih
        rw [spl_cons h hs]
        simp at ih ⊢
        omega
/-- Numerals. -/
def dec (n : Nat) : List UInt8 := Lib.decDigits n
theorem dec_small {n : Nat} (h : n < 10) : dec n = [UInt8.ofNat (48 + n)] := by unfold dec; rw [Lib.decDigits, dif_pos h]
theorem dec_big {n : Nat} (h : ¬ n < 10) : dec n = dec (n / 10) ++ [UInt8.ofNat (48 + n % 10)] := by unfold dec; rw [Lib.decDigits, dif_neg h]
theorem dec_length {n : Nat} : ∀ k, n < 10 ^ (k + 1) → (dec n).length ≤ k + 1 := by
  intro k
  induction k generalizing n with
  | zero => intro h; rw [dec_small (by simpa using h)]; simp
  | succ k ih =>
    intro h
    by_cases h10 : n < 10
    · rw [dec_small h10]; simp
    · rw [dec_big h10, List.length_append]
      have := ih (n := n / 10) (by rw [Nat.pow_succ] at h; omega)
      simp
      omega
theorem dec_pos (n : Nat) : 0 < (dec n).length := by
  by_cases h10 : n < 10
  · rw [dec_small h10]; simp
  · rw [dec_big h10]; simp
theorem toNat_digit {d : Nat} (h : d < 10) : (UInt8.ofNat (48 + d)).toNat = 48 + d := by
  rw [UInt8.toNat_ofNat']
  omega
theorem dec_isD (n : Nat) : (dec n).all isD = true := by
  induction n using Nat.strongRecOn with
  | _ n ih =>
    by_cases h10 : n < 10
    · rw [dec_small h10]
      simp only [List.all_cons, List.all_nil, Bool.and_true]
      exact isD_iff.2 (by rw [toNat_digit h10]; omega)
    · rw [dec_big h10, List.all_append, ih (n / 10) (by omega)]
      simp only [List.all_cons, List.all_nil, Bool.and_true, Bool.true_and]
      exact isD_iff.2 (by rw [toNat_digit (by omega)]; omega)
theorem numTo_append (l m : List UInt8) (acc : Nat) : numTo acc (l ++ m) = numTo (numTo acc l) m := by simp [numTo]
/-- A numeral's value. -/
theorem num_dec (n : Nat) : numV (dec n) = n := by
  induction n using Nat.strongRecOn with
  | _ n ih =>
    by_cases h10 : n < 10
    · rw [dec_small h10]
      unfold numV numTo
      simp only [List.foldl_cons, List.foldl_nil]
      rw [toNat_digit h10]
      omega
    · rw [dec_big h10]
      have h1 := ih (n / 10) (by omega)
      unfold numV at h1 ⊢
      rw [numTo_append, h1]
      unfold numTo
      simp only [List.foldl_cons, List.foldl_nil]
      rw [toNat_digit (by omega)]
      omega
theorem numF_dec {n : Nat} (h : n < 100000000) : numF (dec n) = some n := by
  have h1 := dec_pos n
  have h2 := dec_length (n := n) 7 (by omega)
  unfold numF
  rw [if_pos ⟨⟨h1, h2⟩, dec_isD n⟩, num_dec]

end Go.Proofs.YtmgdcnibmifdeaaGreatDoor.Res
