/- Plain laws: how far the code is from a word; what mends a word; sextets; how octads meet. -/
import Derived.Test.YtmgdcnibmifdeaaGreatDoorStn
set_option linter.unusedVariables false
namespace Go.Proofs.YtmgdcnibmifdeaaGreatDoor.Res

/-- The least weight of what is added to a word to make it one of the first k words of the code. -/
def farTo (w : Nat) : Nat → Nat
  | 0 => 25
  | k + 1 => if wt (w ^^^ code k) < farTo w k then wt (w ^^^ code k) else farTo w k
def far (w : Nat) : Nat := farTo w 4096
theorem farTo_lt {w k : Nat} (h : wt (w ^^^ code k) < farTo w k) : farTo w (k + 1) = wt (w ^^^ code k) := by simp [farTo, h]
theorem farTo_ge {w k : Nat} (h : ¬ wt (w ^^^ code k) < farTo w k) : farTo w (k + 1) = farTo w k := by simp [farTo, h]
theorem farTo_le (w k : Nat) : farTo w k ≤ 25 := by
  induction k with
  | zero => exact Nat.le_refl _
  | succ k ih => simp only [farTo]; split <;> omega
theorem farTo_first (w k : Nat) : farTo w (k + 1) ≤ 24 := by
  induction k with
  | zero =>
    have h := wt_le (w ^^^ code 0)
    rw [farTo_lt (by show _ < 25; omega)]
    exact h
  | succ k ih =>
    by_cases h : wt (w ^^^ code (k + 1)) < farTo w (k + 1)
    · rw [farTo_lt h]; omega
    · rw [farTo_ge h]; exact ih
/-- A list of words of the code that are all as near as can be, among the first k. -/
def nearP (w k : Nat) (l : List Int) : Prop := l.length ≤ k ∧ (0 < k → 0 < l.length) ∧ ∀ x, x ∈ l → ∃ m, m < k ∧ x = ((code m : Nat) : Int) ∧ wt (w ^^^ code m) = farTo w k
theorem nearP_zero (w : Nat) : nearP w 0 [] := ⟨Nat.le_refl _, fun h => by omega, fun x hx => by simp at hx⟩
theorem nearP_new {w k : Nat} (h : wt (w ^^^ code k) < farTo w k) : nearP w (k + 1) [((code k : Nat) : Int)] := by
  refine ⟨by simp, fun _ => by simp, fun x hx => ?_⟩
  rw [List.mem_singleton] at hx
  exact ⟨k, by omega, hx, (farTo_lt h).symm⟩
theorem nearP_more {w k : Nat} {l l' : List Int} (hl : nearP w k l) (h : wt (w ^^^ code k) = farTo w k) (hn : l'.length = l.length + 1) (hm : ∀ x, x ∈ l' → x ∈ l ∨ x = ((code k : Nat) : Int)) : nearP w (k + 1) l' := by
  have hf : farTo w (k + 1) = farTo w k := farTo_ge (by omega)
  refine ⟨by have := hl.1; omega, fun _ => by omega, fun x hx => ?_⟩
  rcases hm x hx with h1 | h1
  · obtain ⟨m, h2, h3, h4⟩ := hl.2.2 x h1
    exact ⟨m, by omega, h3, by rw [hf]; exact h4⟩
  · exact ⟨k, by omega, h1, by rw [hf]; exact h⟩
theorem nearP_same {w k : Nat} {l : List Int} (hl : nearP w k l) (h1 : ¬ wt (w ^^^ code k) < farTo w k) (h2 : wt (w ^^^ code k) ≠ farTo w k) : nearP w (k + 1) l := by
  have hf : farTo w (k + 1) = farTo w k := farTo_ge h1
  refine ⟨by have := hl.1; omega, fun _ => ?_, fun x hx => ?_⟩
  · rcases Nat.eq_zero_or_pos k with h0 | h0
    · subst h0
      have := wt_le (w ^^^ code 0)
      have : farTo w 0 = 25 := rfl
      omega
    · exact hl.2.1 h0
  · obtain ⟨m, h3, h4, h5⟩ := hl.2.2 x hx
    exact ⟨m, by omega, h4, by rw [hf]; exact h5⟩
theorem nearP_perm {w k : Nat} {l m : List Int} (h : m.Perm l) (hl : nearP w k l) : nearP w k m :=
  ⟨by rw [h.length_eq]; exact hl.1, fun h0 => by rw [h.length_eq]; exact hl.2.1 h0, fun x hx => hl.2.2 x (h.mem_iff.1 hx)⟩
theorem nearP_words {w k : Nat} {l : List Int} (hk : k ≤ 4096) (hl : nearP w k l) {i : Nat} (hi : i < l.length) : 0 ≤ l.getD i 0 ∧ l.getD i 0 ≤ 16777215 := by
  obtain ⟨m, h1, h2, -⟩ := hl.2.2 (l.getD i 0) (by rw [getD_get hi]; exact List.getElem_mem _)
  have := code_lt (show m < 4096 by omega)
  omega
/-- The least one is met. -/
theorem far_met (w : Nat) (k : Nat) : ∃ m, m < k + 1 ∧ wt (w ^^^ code m) = farTo w (k + 1) := by
  induction k with
  | zero =>
    have h := wt_le (w ^^^ code 0)
    exact ⟨0, by omega, (farTo_lt (by show _ < 25; omega)).symm⟩
  | succ k ih =>
    by_cases h : wt (w ^^^ code (k + 1)) < farTo w (k + 1)
    · exact ⟨k + 1, by omega, (farTo_lt h).symm⟩
    · obtain ⟨m, h1, h2⟩ := ih
      exact ⟨m, by omega, by rw [farTo_ge h]; exact h2⟩
def mendI (w : Nat) : Nat := ((List.range 4096).find? (fun m => Nat.beq (wt (w ^^^ code m)) (far w))).getD 0
/-- The word of the code that mends a word. -/
def mendW (w : Nat) : Nat := code (mendI w)
theorem mendI_facts (w : Nat) : mendI w < 4096 ∧ wt (w ^^^ mendW w) = far w := by
  obtain ⟨m, h1, h2⟩ := far_met w 4095
  unfold mendW mendI
  cases hf : (List.range 4096).find? (fun m => Nat.beq (wt (w ^^^ code m)) (far w)) with
  | none =>
    have := List.find?_eq_none.1 hf m (List.mem_range.2 h1)
    exact absurd (by show Nat.beq _ _ = true; rw [h2]; exact Nat.beq_refl _) this
  | some i =>
    have h3 := List.find?_some hf
    have h4 := List.mem_of_find?_eq_some hf
    exact ⟨List.mem_range.1 h4, Nat.eq_of_beq_eq_true h3⟩
theorem mendW_lt (w : Nat) : mendW w < 16777216 := code_lt (mendI_facts w).1
theorem mendW_in (w : Nat) : codeB (mendW w) = true := code_in _
/-- No two words of the code are so near. -/
theorem mend_uniq {w a b : Nat} (hw : w < 16777216) (ha : a < 16777216) (hb : b < 16777216) (ca : codeB a = true) (cb : codeB b = true) (h : wt (w ^^^ a) + wt (w ^^^ b) ≤ 7) : a = b := by
  have hlt : a ^^^ b < 16777216 := Nat.xor_lt_two_pow (n := 24) ha hb
  have e : a ^^^ b = (w ^^^ a) ^^^ (w ^^^ b) := by
    rw [Nat.xor_comm w a, Nat.xor_assoc, ← Nat.xor_assoc w w b, Nat.xor_self, Nat.zero_xor]
  have h1 := wt_both (w ^^^ a) (w ^^^ b)
  rw [← e] at h1
  have h2 := codeB_wt hlt (codeB_xor ha hb ca cb)
  have h3 : wt (a ^^^ b) = 0 := by omega
  exact xor_none (wt_none hlt h3)
theorem near_head {w : Nat} (hw : w < 16777216) {l : List Int} (hl : nearP w 4096 l) (h3 : far w ≤ 3) : l.getD 0 0 = ((mendW w : Nat) : Int) := by
  have h0 := hl.2.1 (by omega)
  obtain ⟨m, h1, h2, h4⟩ := hl.2.2 (l.getD 0 0) (by rw [getD_get h0]; exact List.getElem_mem _)
  have h5 := (mendI_facts w).2
  have h6 : farTo w 4096 = far w := rfl
  rw [h2, mend_uniq hw (code_lt h1) (mendW_lt w) (code_in m) (mendW_in w) (by omega)]

/-- The sextet of a tetrad. -/
def sxTo (w : Nat) (S : List Int) (k : Nat) : List Int := (w : Int) :: (List.range k).map fun i => (((S.getD i 0).toNat ^^^ w : Nat) : Int)
def sxL (w : Nat) : List Int := srt (sxTo w (wi w) (wi w).length)
theorem sxTo_succ (w : Nat) (S : List Int) (k : Nat) : sxTo w S (k + 1) = sxTo w S k ++ [(((S.getD k 0).toNat ^^^ w : Nat) : Int)] := by simp [sxTo, List.range_succ]
theorem sxTo_length (w : Nat) (S : List Int) (k : Nat) : (sxTo w S k).length = k + 1 := by simp [sxTo]
theorem wi_get {w i : Nat} (h : i < (wi w).length) : ∃ o : Nat, (wi w).getD i 0 = (o : Int) ∧ octP o ∧ o &&& w = w := by
  have hm : (wi w).getD i 0 ∈ wi w := by rw [getD_get h]; exact List.getElem_mem _
  exact wi_mem hm
/-- How many of the first k octads of a list meet a word in so many places. -/
def omTo (S : List Int) (w : Nat) : Nat → List Int
  | 0 => List.replicate 9 0
  | k + 1 => (omTo S w k).set (wt ((S.getD k 0).toNat &&& w)) ((omTo S w k).getD (wt ((S.getD k 0).toNat &&& w)) 0 + 1)
def omL (w : Nat) : List Int := omTo ocs w ocs.length
theorem omTo_length (S : List Int) (w k : Nat) : (omTo S w k).length = 9 := by
  induction k with
  | zero => simp [omTo]
  | succ k ih => simp [omTo, ih]
theorem omTo_bd (S : List Int) (w k i : Nat) : 0 ≤ (omTo S w k).getD i 0 ∧ (omTo S w k).getD i 0 ≤ (k : Int) := by
  induction k generalizing i with
  | zero =>
    simp only [omTo, List.getD, List.getElem?_replicate]
    split <;> simp
  | succ k ih =>
    have h1 := ih i
    have h2 := ih (wt ((S.getD k 0).toNat &&& w))
    simp only [omTo]
    generalize (omTo S w k).getD (wt ((S.getD k 0).toNat &&& w)) 0 = y at *
    generalize wt ((S.getD k 0).toNat &&& w) = j at *
    simp only [List.getD, List.getElem?_set]
    split
    · split
      · simp only [Option.getD_some]; omega
      · simp only [Option.getD_none]; omega
    · have h3 : (omTo S w k)[i]?.getD 0 = (omTo S w k).getD i 0 := rfl
      rw [h3]
      omega
theorem wi_zero : wi 0 = ocs := by
  unfold wi wiTo
  rw [wiS_filter _ _ _ (Nat.le_refl _), List.take_length]
  apply List.filter_eq_self.2
  intro x _
  unfold inW
  simp
theorem wtTo_and_le (x y k : Nat) : wtTo (x &&& y) k ≤ wtTo y k := by
  induction k with
  | zero => exact Nat.le_refl _
  | succ k ih =>
    have h : (x &&& y).testBit k = (x.testBit k && y.testBit k) := Nat.testBit_and x y k
    simp only [wtTo]
    show wtTo (x &&& y) k + bitN (x &&& y) k ≤ wtTo y k + bitN y k
    cases hy : y.testBit k
    · rw [hy, Bool.and_false] at h
      rw [bitN_false h, bitN_false hy]; omega
    · have := bitN_le (x &&& y) k
      rw [bitN_true hy]; omega
theorem wt_and_le (x y : Nat) : wt (x &&& y) ≤ wt y := wtTo_and_le x y 24
theorem oct_meet_le (n : Nat) {i : Nat} (h : i < ocs.length) : wt ((ocs.getD i 0).toNat &&& n) ≤ 8 := by
  have hm : ocs.getD i 0 ∈ ocs := by rw [getD_get h]; exact List.getElem_mem _
  obtain ⟨m, h1, h2, h3⟩ := ocsTo_mem ((srt_perm (ocsTo 4096)).mem_iff.1 hm)
  have h4 := wt_and_le n (code m)
  rw [h3, Int.toNat_natCast, Nat.and_comm]
  omega

end Go.Proofs.YtmgdcnibmifdeaaGreatDoor.Res
