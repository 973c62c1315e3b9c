/- Plain laws: the code is linear and meets itself evenly; the weights of its words. -/
import Derived.Test.YtmgdcnibmifdeaaGreatDoorCdIn
import Derived.Test.YtmgdcnibmifdeaaGreatDoorCdChk
set_option linter.unusedVariables false
namespace Go.Proofs.YtmgdcnibmifdeaaGreatDoor.Res

theorem fill_sc : ∀ n, n < 16 → fill (sc n) (wt n % 2) (n % 2) = n := by decide +kernel

/-- The message of a word of the code. -/
def msg (w : Nat) : Nat := sc (col w 0) + 4 * sc (col w 1) + 16 * sc (col w 2) + 64 * (topS w 6 % 2) + 128 * (bitN w 4 + 2 * bitN w 8 + 4 * bitN w 12 + 8 * bitN w 16 + 16 * bitN w 20)
theorem msg_lt (w : Nat) : msg w < 4096 := by
  have h0 := sc_lt (col w 0)
  have h1 := sc_lt (col w 1)
  have h2 := sc_lt (col w 2)
  have b1 := bitN_le w 4
  have b2 := bitN_le w 8
  have b3 := bitN_le w 12
  have b4 := bitN_le w 16
  have b5 := bitN_le w 20
  unfold msg
  omega

theorem par_get {w c : Nat} (hc : c < 6) (h : codeB w = true) : wt (col w c) % 2 = topS w 6 % 2 := by
  cases hp : parOk w c
  · rw [codeB_par hc hp] at h
    cases h
  · unfold parOk at hp
    rw [beq_iff_eq] at hp
    exact hp
theorem hex_get {w : Nat} (h : codeB w = true) : scl w = hexRow (sc (col w 0)) (sc (col w 1)) (sc (col w 2)) := by
  unfold codeB at h
  rw [Bool.and_eq_true] at h
  have h2 := h.2
  unfold hexIs at h2
  rw [beq_iff_eq] at h2
  exact h2
theorem scl_get {w c : Nat} (hc : c < 6) : (scl w).getD c 0 = sc (col w c) := by
  unfold scl sclTo
  simp [List.getD, hc]
theorem col_fill {w c : Nat} (hc : c < 6) (h : codeB w = true) : fill (sc (col w c)) (topS w 6 % 2) (bitN w (4 * c)) = col w c := by
  have e : bitN w (4 * c) = col w c % 2 := by
    unfold bitN col
    omega
  rw [← par_get hc h, e]
  exact fill_sc _ (col_lt w c)
theorem word_cols {w : Nat} (hw : w < 16777216) : w = col w 1 * 2 ^ (4 * 1) + col w 2 * 2 ^ (4 * 2) + col w 3 * 2 ^ (4 * 3) + col w 4 * 2 ^ (4 * 4) + col w 5 * 2 ^ (4 * 5) + col w 0 := by
  unfold col
  omega
theorem top_zero (w : Nat) : ((((((0 ^^^ bitN w 4) ^^^ bitN w 8) ^^^ bitN w 12) ^^^ bitN w 16) ^^^ bitN w 20) ^^^ (topS w 6 % 2)) = bitN w 0 := by
  have b0 := bitN_le w 0
  have b1 := bitN_le w 4
  have b2 := bitN_le w 8
  have b3 := bitN_le w 12
  have b4 := bitN_le w 16
  have b5 := bitN_le w 20
  have e : topS w 6 = bitN w 0 + bitN w 4 + bitN w 8 + bitN w 12 + bitN w 16 + bitN w 20 := by simp [topS]
  rw [e]
  generalize bitN w 0 = x0 at *
  generalize bitN w 4 = x1 at *
  generalize bitN w 8 = x2 at *
  generalize bitN w 12 = x3 at *
  generalize bitN w 16 = x4 at *
  generalize bitN w 20 = x5 at *
  rw [Nat.zero_xor, bit_xor (a := x1) (b := x2) (by omega) (by omega), bit_xor (a := (x1 + x2) % 2) (b := x3) (by omega) (by omega), bit_xor (a := ((x1 + x2) % 2 + x3) % 2) (b := x4) (by omega) (by omega), bit_xor (a := (((x1 + x2) % 2 + x3) % 2 + x4) % 2) (b := x5) (by omega) (by omega), bit_xor (a := ((((x1 + x2) % 2 + x3) % 2 + x4) % 2 + x5) % 2) (b := (x0 + x1 + x2 + x3 + x4 + x5) % 2) (by omega) (by omega)]
  omega

theorem code_msg {w : Nat} (hw : w < 16777216) (h : codeB w = true) : code (msg w) = w := by
  have h0 := sc_lt (col w 0)
  have h1 := sc_lt (col w 1)
  have h2 := sc_lt (col w 2)
  have b1 := bitN_le w 4
  have b2 := bitN_le w 8
  have b3 := bitN_le w 12
  have b4 := bitN_le w 16
  have b5 := bitN_le w 20
  have hm : msg w = sc (col w 0) + 4 * sc (col w 1) + 16 * sc (col w 2) + 64 * (topS w 6 % 2) + 128 * (bitN w 4 + 2 * bitN w 8 + 4 * bitN w 12 + 8 * bitN w 16 + 16 * bitN w 20) := rfl
  have m0 : msg w % 4 = sc (col w 0) := by omega
  have m1 : msg w / 4 % 4 = sc (col w 1) := by omega
  have m2 : msg w / 16 % 4 = sc (col w 2) := by omega
  have p6 : bitN (msg w) 6 = topS w 6 % 2 := by show msg w / 64 % 2 = _; omega
  have p7 : bitN (msg w) (7 + 0) = bitN w 4 := by show msg w / 128 % 2 = _; omega
  have p8 : bitN (msg w) (7 + 1) = bitN w 8 := by show msg w / 256 % 2 = _; omega
  have p9 : bitN (msg w) (7 + 2) = bitN w 12 := by show msg w / 512 % 2 = _; omega
  have p10 : bitN (msg w) (7 + 3) = bitN w 16 := by show msg w / 1024 % 2 = _; omega
  have p11 : bitN (msg w) (7 + 4) = bitN w 20 := by show msg w / 2048 % 2 = _; omega
  clear hm
  have hr : cdRow (msg w) = scl w := by
    unfold cdRow
    rw [m0, m1, m2]
    exact (hex_get h).symm
  have ht : cdTop (msg w) 5 = ((((0 ^^^ bitN w 4) ^^^ bitN w 8) ^^^ bitN w 12) ^^^ bitN w 16) ^^^ bitN w 20 := by
    simp only [cdTop]
    rw [p7, p8, p9, p10, p11]
  have e : code (msg w) = col w 1 * 2 ^ (4 * 1) + col w 2 * 2 ^ (4 * 2) + col w 3 * 2 ^ (4 * 3) + col w 4 * 2 ^ (4 * 4) + col w 5 * 2 ^ (4 * 5) + col w 0 := by
    unfold code
    rw [ht, p6, top_zero]
    simp only [cdTo]
    rw [hr, p6, p7, p8, p9, p10, p11]
    rw [scl_get (c := 0) (by omega), scl_get (c := 0 + 1) (by omega), scl_get (c := 1 + 1) (by omega), scl_get (c := 2 + 1) (by omega), scl_get (c := 3 + 1) (by omega), scl_get (c := 4 + 1) (by omega)]
    have f0 := col_fill (c := 0) (by omega) h
    have f1 := col_fill (c := 1) (by omega) h
    have f2 := col_fill (c := 2) (by omega) h
    have f3 := col_fill (c := 3) (by omega) h
    have f4 := col_fill (c := 4) (by omega) h
    have f5 := col_fill (c := 5) (by omega) h
    simp only [Nat.reduceMul, Nat.reduceAdd] at f0 f1 f2 f3 f4 f5 ⊢
    rw [f0, f1, f2, f3, f4, f5, Nat.zero_add]
  rw [e]
  exact (word_cols hw).symm

/-- The places of row 0 of a message. -/
def topM (m c : Nat) : Nat := if c = 0 then cdTop m 5 ^^^ bitN m 6 else bitN m (6 + c)
theorem topM_lt (m c : Nat) : topM m c < 2 := by
  unfold topM
  split
  · have h1 := cdTop_le m 5
    have h2 := bitN_le m 6
    exact Nat.xor_lt_two_pow (n := 1) (by omega) (by omega)
  · have := bitN_le m (6 + c)
    omega
theorem fill_facts : ∀ s, s < 4 → ∀ p, p < 2 → ∀ f, f < 2 → sc (fill s p f) = s ∧ wt (fill s p f) % 2 = p ∧ fill s p f % 2 = f := by decide +kernel
def colM (m c : Nat) : Nat := fill ((cdRow m).getD c 0) (bitN m 6) (topM m c)
theorem colM_lt (m c : Nat) : colM m c < 16 := fill_lt _ (by have := cdRow_le m c; omega) _ (by have := bitN_le m 6; omega) _ (topM_lt m c)
theorem colM_facts (m c : Nat) : sc (colM m c) = (cdRow m).getD c 0 ∧ wt (colM m c) % 2 = bitN m 6 ∧ colM m c % 2 = topM m c :=
  fill_facts _ (by have := cdRow_le m c; omega) _ (by have := bitN_le m 6; omega) _ (topM_lt m c)
theorem code_sum (m : Nat) : code m = colM m 0 + 16 * colM m 1 + 256 * colM m 2 + 4096 * colM m 3 + 65536 * colM m 4 + 1048576 * colM m 5 := by
  have h : code m = 0 + colM m 1 * 2 ^ 4 + colM m 2 * 2 ^ 8 + colM m 3 * 2 ^ 12 + colM m 4 * 2 ^ 16 + colM m 5 * 2 ^ 20 + colM m 0 := rfl
  rw [h]
  omega
theorem code_col (m : Nat) {c : Nat} (hc : c < 6) : col (code m) c = colM m c := by
  have h := code_sum m
  have h0 := colM_lt m 0
  have h1 := colM_lt m 1
  have h2 := colM_lt m 2
  have h3 := colM_lt m 3
  have h4 := colM_lt m 4
  have h5 := colM_lt m 5
  unfold col
  obtain rfl | rfl | rfl | rfl | rfl | rfl : c = 0 ∨ c = 1 ∨ c = 2 ∨ c = 3 ∨ c = 4 ∨ c = 5 := by omega
  · show code m / 1 % 16 = _; omega
  · show code m / 16 % 16 = _; omega
  · show code m / 256 % 16 = _; omega
  · show code m / 4096 % 16 = _; omega
  · show code m / 65536 % 16 = _; omega
  · show code m / 1048576 % 16 = _; omega
theorem bitN_col (n c : Nat) : bitN n (4 * c) = col n c % 2 := by
  unfold bitN col
  omega
theorem code_top (m : Nat) : topS (code m) 6 % 2 = bitN m 6 := by
  have e : ∀ c, c < 6 → bitN (code m) (4 * c) = topM m c := by
    intro c hc
    rw [bitN_col, code_col m hc]
    exact (colM_facts m c).2.2
  simp only [topS]
  rw [e 0 (by omega), e (0 + 1) (by omega), e (0 + 1 + 1) (by omega), e (0 + 1 + 1 + 1) (by omega), e (0 + 1 + 1 + 1 + 1) (by omega), e (0 + 1 + 1 + 1 + 1 + 1) (by omega)]
  have t0 : topM m 0 = (((((0 ^^^ bitN m 7) ^^^ bitN m 8) ^^^ bitN m 9) ^^^ bitN m 10) ^^^ bitN m 11) ^^^ bitN m 6 := rfl
  have t1 : topM m (0 + 1) = bitN m 7 := rfl
  have t2 : topM m (0 + 1 + 1) = bitN m 8 := rfl
  have t3 : topM m (0 + 1 + 1 + 1) = bitN m 9 := rfl
  have t4 : topM m (0 + 1 + 1 + 1 + 1) = bitN m 10 := rfl
  have t5 : topM m (0 + 1 + 1 + 1 + 1 + 1) = bitN m 11 := rfl
  rw [t0, t1, t2, t3, t4, t5]
  have b6 := bitN_le m 6
  have b7 := bitN_le m 7
  have b8 := bitN_le m 8
  have b9 := bitN_le m 9
  have b10 := bitN_le m 10
  have b11 := bitN_le m 11
  generalize bitN m 6 = x0 at *
  generalize bitN m 7 = x1 at *
  generalize bitN m 8 = x2 at *
  generalize bitN m 9 = x3 at *
  generalize bitN m 10 = x4 at *
  generalize bitN m 11 = x5 at *
  rw [Nat.zero_xor, bit_xor (a := x1) (b := x2) (by omega) (by omega), bit_xor (a := (x1 + x2) % 2) (b := x3) (by omega) (by omega), bit_xor (a := ((x1 + x2) % 2 + x3) % 2) (b := x4) (by omega) (by omega), bit_xor (a := (((x1 + x2) % 2 + x3) % 2 + x4) % 2) (b := x5) (by omega) (by omega), bit_xor (a := ((((x1 + x2) % 2 + x3) % 2 + x4) % 2 + x5) % 2) (b := x0) (by omega) (by omega)]
  omega
theorem code_in (m : Nat) : codeB (code m) = true := by
  unfold codeB
  rw [Bool.and_eq_true]
  constructor
  · rw [List.all_eq_true]
    intro c hc
    have hc6 : c < 6 := by simpa using hc
    unfold parOk
    rw [beq_iff_eq, code_top, code_col m hc6]
    exact (colM_facts m c).2.1
  · have e : scl (code m) = cdRow m := by
      have e1 : scl (code m) = [sc (col (code m) 0), sc (col (code m) 1), sc (col (code m) 2), sc (col (code m) 3), sc (col (code m) 4), sc (col (code m) 5)] := rfl
      rw [e1, code_col m (by omega), code_col m (by omega), code_col m (by omega), code_col m (by omega), code_col m (by omega), code_col m (by omega),
        (colM_facts m 0).1, (colM_facts m 1).1, (colM_facts m 2).1, (colM_facts m 3).1, (colM_facts m 4).1, (colM_facts m 5).1]
      rfl
    rw [e]
    unfold hexIs
    rw [beq_iff_eq]
    rfl

theorem in_en {w : Nat} (hw : w < 16777216) (h : codeB w = true) : w = en (msg w) := by
  have h1 := code_msg hw h
  have h2 := Nat.eq_of_beq_eq_true (allB_all 12 en_code (msg w) (msg_lt w))
  rw [← h2, h1]
/-- The code is closed. -/
theorem codeB_xor {a b : Nat} (ha : a < 16777216) (hb : b < 16777216) (h1 : codeB a = true) (h2 : codeB b = true) : codeB (a ^^^ b) = true := by
  rw [in_en ha h1, in_en hb h2, ← en_xor]
  rw [← Nat.eq_of_beq_eq_true (allB_all 12 en_code _ (Nat.xor_lt_two_pow (n := 12) (msg_lt a) (msg_lt b)))]
  exact code_in _
theorem codeB_zero : codeB 0 = true := by decide +kernel
theorem codeB_full : codeB 16777215 = true := by decide +kernel
/-- The weights of the code's words. -/
theorem codeB_wt {w : Nat} (hw : w < 16777216) (h : codeB w = true) : wt w = 0 ∨ wt w = 8 ∨ wt w = 12 ∨ wt w = 16 ∨ wt w = 24 := by
  have := allB_all 12 en_wt (msg w) (msg_lt w)
  rw [← in_en hw h] at this
  unfold cwOk at this
  simp only [Bool.or_eq_true, Nat.beq_eq] at this
  omega
theorem enTo_pr (m k : Nat) (hk : k ≤ 12) (j : Nat) (hj : j < 12) : pr (enTo m k) (cdBase.getD j 0) = 0 := by
  induction k with
  | zero => unfold pr; rw [show enTo m 0 = 0 from rfl, Nat.zero_and]; rfl
  | succ k ih =>
    cases h : m.testBit k
    · rw [enTo_miss h]; exact ih (by omega)
    · rw [enTo_hit h, pr_xor, ih (by omega), base_dual k (by omega) j hj]
theorem en_pr (x m k : Nat) (hk : k ≤ 12) : pr (en x) (enTo m k) = 0 := by
  induction k with
  | zero => unfold pr; rw [show enTo m 0 = 0 from rfl, Nat.and_zero]; rfl
  | succ k ih =>
    cases h : m.testBit k
    · rw [enTo_miss h]; exact ih (by omega)
    · rw [enTo_hit h, pr_xor', ih (by omega), show pr (en x) (cdBase.getD k 0) = 0 from enTo_pr x 12 (Nat.le_refl _) k (by omega)]
/-- Words of the code meet evenly. -/
theorem codeB_pr {a b : Nat} (ha : a < 16777216) (hb : b < 16777216) (h1 : codeB a = true) (h2 : codeB b = true) : pr a b = 0 := by
  rw [in_en ha h1, in_en hb h2]
  exact en_pr _ _ 12 (Nat.le_refl _)

end Go.Proofs.YtmgdcnibmifdeaaGreatDoor.Res
