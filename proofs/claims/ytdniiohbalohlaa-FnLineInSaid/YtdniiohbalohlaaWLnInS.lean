/- Contracts of the reference's LineIn: each generator is met evenly. -/
import Derived.Test.YtdniiohbalohlaaWLn
import Derived.Test.YtdniiohbalohlaaLnDual
set_option linter.unusedVariables false
namespace Go.Proofs.Ytdniiohbalohlaa
open Go.RowKit Res

theorem specLineIn_no (n : Int) (w : World) (h : inB n 0 16777215 = false) :
    Calls Try.prog 27 #[.int .i64 n] w fun e w' => e = .returned (.bool false) ∧ w = w' := by
  go_enter Try.func27, Try.ntmps27
  go_wp2_with fail
  refine (specWordValid_any _ _).mono ?_
  rintro e w' ⟨rfl, rfl⟩
  go_wp2_with fail
  go_ret
  exact ⟨rfl, rfl⟩

theorem all_take (f : Nat → Bool) {k n : Nat} (hk : k < n) (hn : ((List.range k).all f) = true) (h : f k = true) : ((List.range (k + 1)).all f) = true := by
  rw [List.range_succ, List.all_append, hn]
  simp [h]
theorem all_false (f : Nat → Bool) {k n : Nat} (hk : k < n) (h : f k = false) : ((List.range n).all f) = false := by
  rw [List.all_eq_false]
  exact ⟨k, by simpa using hk, by simp [h]⟩

theorem specLineIn_ok (n : Int) (w : World) (h0 : 0 ≤ n) (h1 : n ≤ 16777215) :
    Calls Try.prog 27 #[.int .i64 n] w fun e w' => e = .returned (.bool (lineInB n.toNat)) ∧ w = w' := by
  obtain ⟨n, rfl⟩ := Int.eq_ofNat_of_zero_le h0
  rw [Int.toNat_natCast, ← lineIn_same (by omega)]
  have hb : inB (n : Int) 0 16777215 = true := inB_true h0 h1
  go_enter Try.func27, Try.ntmps27
  go_wp2_with fail
  refine (specWordValid_any _ _).mono ?_
  rintro e w' ⟨rfl, rfl⟩
  go_wp2_with fail
  go_loop [3] (fun x => ∃ k : Nat, k ≤ 23 ∧ x = .int .i64 (k : Int) ∧ Hid (((List.range k).all fun i => pr n (gen i) == 0) = true))
    (fun x => (24 - (intOf x).toNat))
  case atStart => exact ⟨0, by omega, rfl, Lib.hid rfl⟩
  case round =>
    obtain ⟨k, hk, rfl, hall⟩ := hrel
    by_cases hlt : k < 23
    · have hg := gen_le k hlt
      have ha : n &&& gen k ≤ n := Nat.and_le_left
      have hpr : wt (n &&& gen k) % 2 = pr n (gen k) := rfl
      have hi := i64_and n (gen k) (by omega) (by omega)
      have hw := wt_le (n &&& gen k)
      have htm : ((wt (n &&& gen k) : Nat) : Int) % 2 = ((pr n (gen k) : Nat) : Int) := by omega
      have hp2 := pr_lt n (gen k)
      have hgg : (gen k : Int) ≤ 16777215 := by omega
      have HI := Lib.hid hi
      have HT := Lib.hid htm
      clear hi htm
      generalize hm : n &&& gen k = m at *
      have hf := all_false (fun i => pr n (gen i) == 0) hlt
      have ht := all_take (fun i => pr n (gen i) == 0) hlt hall
      generalize pr n (gen k) = p at *
      have HF := Lib.hid hf
      have HTT := Lib.hid ht
      clear hf ht hall hpr
      go_wp2_with fail
      refine (l8Word_any _ _ (by omega) (by omega)).mono ?_
      rintro e w' ⟨rfl, rfl⟩
      rw [Int.toNat_natCast]
      go_wp2_with fail
      rw [HI.out]
      refine (l1Weight_any _ _ (by omega) (by omega)).mono ?_
      rintro e w' ⟨rfl, rfl⟩
      rw [Int.toNat_natCast]
      by_cases ho : p = 1
      · have hT : (((wt m : Nat) : Int) % 2 == 1) = true := by rw [beq_iff_eq, HT.out]; omega
        clear HT HTT HI hm
        go_wp2_with fail
        go_ret
        exact ⟨ret_bool (HF.out (by rw [beq_eq_false_iff_ne]; omega)).symm, rfl⟩
      · have hT : (((wt m : Nat) : Int) % 2 == 1) = false := by rw [beq_eq_false_iff_ne, ne_eq, HT.out]; omega
        clear HT HF HI hm
        go_wp2_with fail
        go_round
        case rel => exact ⟨k + 1, by omega, by go_num, Lib.hid (HTT.out (by rw [beq_iff_eq]; omega))⟩
        case measure => simp [intOf]; omega
    · go_wp2
      go_ret
      obtain rfl : k = 23 := by omega
      exact ⟨ret_bool hall.out.symm, rfl⟩

end Go.Proofs.Ytdniiohbalohlaa
