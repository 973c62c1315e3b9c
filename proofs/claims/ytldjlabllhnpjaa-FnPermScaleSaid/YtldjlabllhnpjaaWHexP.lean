/- Contracts of the check of rows at any list, and of HexIn where the list is no row. -/
import Derived.Test.YtldjlabllhnpjaaWHexIn
import Derived.BigQuiet
import Derived.Deep.QuietTactic
set_option linter.unusedVariables false
namespace Go.Proofs.Ytldjlabllhnpjaa
open Go.RowKit Res

/-- Is a list a row of digits? -/
def rowB (l : List Int) : Bool := l.all (fun n => inB n 0 3) && l.length == 6
theorem rowB_len {l : List Int} (h : (l.take l.length).all (fun n => inB n 0 3) = true) : rowB l = ((l.length : Int) == 6) := by
  rw [List.take_length] at h
  have e : (l.length == 6) = ((l.length : Int) == 6) := by
    rw [Bool.eq_iff_iff]; simp; omega
  rw [rowB, h, Bool.true_and, e]
theorem rowB_bad {l : List Int} {k : Nat} (hk : k < l.length) (h : (!inB l[k] 0 3) = true) : rowB l = false := by
  have : l.all (fun n => inB n 0 3) = false := by
    rw [List.all_eq_false]
    exact ⟨l[k], List.getElem_mem hk, by simpa using h⟩
  rw [rowB, this, Bool.false_and]
theorem row_step {l : List Int} {k : Nat} (hk : k < l.length) (h : (!inB l[k] 0 3) = false) (hn : (l.take k).all (fun n => inB n 0 3) = true) :
    (l.take (k + 1)).all (fun n => inB n 0 3) = true := by
  rw [List.take_succ_eq_append_getElem hk, List.all_append, hn]
  simpa using h
/-- A row's digits. -/
theorem rowB_nat {l : List Int} (h : rowB l = true) : ∃ m : List Nat, l = ints m ∧ m.length = 6 ∧ ∀ i, m.getD i 0 ≤ 3 := by
  unfold rowB at h
  rw [Bool.and_eq_true, List.all_eq_true, beq_iff_eq] at h
  refine ⟨l.map Int.toNat, ?_, by simp [h.2], fun i => ?_⟩
  · unfold ints
    rw [List.map_map]
    conv => lhs; rw [← List.map_id l]
    apply List.map_congr_left
    intro x hx
    have := inB_iff.1 (h.1 x hx)
    show x = ((x.toNat : Nat) : Int)
    omega
  · by_cases hi : i < l.length
    · have := inB_iff.1 (h.1 l[i] (List.getElem_mem hi))
      simp [List.getD, hi]
      omega
    · simp [List.getD, hi]

theorem rowOk_all (a : Option Addr) (cap : Nat) (l : List Int) (w : World) (hl : l.length ≤ 9223372036854775807) (hr : Reads .i64 w a l) :
    Calls Try.prog 86 #[.slice a l.length cap] w fun e w' => e = .returned (.bool (rowB l)) ∧ w = w' := by
  go_enter Try.func86, Try.ntmps86
  go_wp2
  go_loop [7] (fun x => ∃ k : Nat, k ≤ l.length ∧ x = .int .i64 (k : Int) ∧ (l.take k).all (fun n => inB n 0 3) = true)
    (fun x => (l.length - (intOf x).toNat))
  case atStart => exact ⟨0, by omega, rfl, rfl⟩
  case round =>
    obtain ⟨k, hk, rfl, hn⟩ := hrel
    by_cases hlt : k < l.length
    · obtain ⟨b, off, ha, hb, hc⟩ := hr k hlt
      subst ha
      go_wp2_with (go_at_call 87; refine (digitOk_any _ _).mono ?_; rintro e w' ⟨rfl, rfl⟩)
      · have h : (!inB l[k] 0 3) = true := by assumption
        go_ret
        exact ⟨ret_bool (rowB_bad hlt h).symm, rfl⟩
      · have h : (!inB l[k] 0 3) = false := by assumption
        go_round
        case rel => exact ⟨k + 1, by omega, by go_num, row_step hlt h hn⟩
        case measure => simp [intOf]; omega
    · go_wp2
      go_ret
      obtain rfl : k = l.length := by omega
      exact ⟨ret_bool (rowB_len hn).symm, rfl⟩
theorem l2Row_all (a : Option Addr) (cap : Nat) (l : List Int) (w : World) (hl : l.length ≤ 9223372036854775807) (hr : Reads .i64 w a l) :
    Calls Try.prog 116 #[.slice a l.length cap] w fun e w' => e = .returned (.bool (rowB l)) ∧ w = w' := by
  go_enter Try.func116, Try.ntmps116
  go_wp2
  go_loop [3] (fun x => ∃ k : Nat, k ≤ l.length ∧ x = .int .i64 (k : Int) ∧ (l.take k).all (fun n => inB n 0 3) = true)
    (fun x => (l.length - (intOf x).toNat))
  case atStart => exact ⟨0, by omega, rfl, rfl⟩
  case round =>
    obtain ⟨k, hk, rfl, hn⟩ := hrel
    by_cases hlt : k < l.length
    · obtain ⟨b, off, ha, hb, hc⟩ := hr k hlt
      subst ha
      go_wp2_with (go_at_call 141; refine (l2Digit_any _ _).mono ?_; rintro e w' ⟨rfl, rfl⟩)
      · have h : (!inB l[k] 0 3) = true := by assumption
        go_ret
        exact ⟨ret_bool (rowB_bad hlt h).symm, rfl⟩
      · have h : (!inB l[k] 0 3) = false := by assumption
        go_round
        case rel => exact ⟨k + 1, by omega, by go_num, row_step hlt h hn⟩
        case measure => simp [intOf]; omega
    · go_wp2
      go_ret
      obtain rfl : k = l.length := by omega
      exact ⟨ret_bool (rowB_len hn).symm, rfl⟩

theorem implHexIn_no (a : Option Addr) (cap : Nat) (l : List Int) (w : World) (hl : l.length ≤ 9223372036854775807) (hr : Reads .i64 w a l) (h : rowB l = false) :
    Calls Try.prog 70 #[.slice a l.length cap] w fun e w' => e = .returned (.bool false) ∧ Below w.heap.size w w' := by
  have C1 : Hid (∀ n, Calls Try.prog 86 #[.slice a l.length cap] (w.drewN n) fun e w' => e = .returned (.bool false) ∧ (w.drewN n) = w') := Lib.hid (fun n => by rw [← h]; exact rowOk_all a cap l (w.drewN n) hl hr)
  clear h
  generalize l.length = N at *
  go_enter Try.func70, Try.ntmps70
  go_wp2
  go_quiet (first | (go_at_call 86; refine Calls.quiet_of_same ((C1.out _).mono (by rintro e w' ⟨rfl, rfl⟩; exact ⟨rfl, rfl⟩))))
  go_wp2_with fail
  go_ret
  exact ⟨rfl, below_drewN (Below.refl _ _) _⟩
theorem specHexIn_no (a : Option Addr) (cap : Nat) (l : List Int) (w : World) (hl : l.length ≤ 9223372036854775807) (hr : Reads .i64 w a l) (h : rowB l = false) :
    Calls Try.prog 69 #[.slice a l.length cap] w fun e w' => e = .returned (.bool false) ∧ Below w.heap.size w w' := by
  have C1 : Hid (∀ n, Calls Try.prog 116 #[.slice a l.length cap] (w.drewN n) fun e w' => e = .returned (.bool false) ∧ (w.drewN n) = w') := Lib.hid (fun n => by rw [← h]; exact l2Row_all a cap l (w.drewN n) hl hr)
  clear h
  generalize l.length = N at *
  go_enter Try.func69, Try.ntmps69
  go_wp2
  go_quiet (first | (go_at_call 116; refine Calls.quiet_of_same ((C1.out _).mono (by rintro e w' ⟨rfl, rfl⟩; exact ⟨rfl, rfl⟩))))
  go_wp2_with fail
  go_ret
  exact ⟨rfl, below_drewN (Below.refl _ _) _⟩

/-- Is a list a row of the hexacode? -/
def hexB (l : List Int) : Bool := rowB l && hexIs (l.map Int.toNat)
theorem ints_toNat (m : List Nat) : (ints m).map Int.toNat = m := by
  unfold ints
  rw [List.map_map]
  conv => rhs; rw [← List.map_id m]
  apply List.map_congr_left
  intro x _
  rfl
theorem Reads.toN {w : World} {a : Option Addr} {m : List Nat} (h : Reads .i64 w a (ints m)) : ReadsN w a m := by
  intro i hi
  obtain ⟨b, off, ha, hlt, hc⟩ := h i (by rw [ints_length]; exact hi)
  rw [ints_get] at hc
  exact ⟨b, off, ha, hlt, hc⟩
theorem implHexIn_all (a : Option Addr) (cap : Nat) (l : List Int) (w : World) (hl : l.length ≤ 9223372036854775807) (hr : Reads .i64 w a l) :
    Calls Try.prog 70 #[.slice a l.length cap] w fun e w' => e = .returned (.bool (hexB l)) ∧ Below w.heap.size w w' := by
  unfold hexB
  cases h : rowB l
  · rw [Bool.false_and]
    exact implHexIn_no a cap l w hl hr h
  · obtain ⟨m, rfl, hm, hd⟩ := rowB_nat h
    rw [Bool.true_and, ints_toNat, ints_length, hm]
    exact implHexIn_any a cap m w hm hd hr.toN
theorem specHexIn_all (a : Option Addr) (cap : Nat) (l : List Int) (w : World) (hl : l.length ≤ 9223372036854775807) (hr : Reads .i64 w a l) :
    Calls Try.prog 69 #[.slice a l.length cap] w fun e w' => e = .returned (.bool (hexB l)) ∧ Below w.heap.size w w' := by
  unfold hexB
  cases h : rowB l
  · rw [Bool.false_and]
    exact specHexIn_no a cap l w hl hr h
  · obtain ⟨m, rfl, hm, hd⟩ := rowB_nat h
    rw [Bool.true_and, ints_toNat, ints_length, hm]
    exact specHexIn_any a cap m w hm hd hr.toN

end Go.Proofs.Ytldjlabllhnpjaa
