/- Contracts of the functions on the hexacode: rows made, and rows asked. -/
import Derived.Test.YtmgdcnibmifdeaaGreatDoorWWd
import Derived.Test.YtmgdcnibmifdeaaGreatDoorCdIn
import Derived.Test.YtmgdcnibmifdeaaGreatDoorWCdS
import Derived.BigQuiet
import Derived.Deep.QuietTactic
import Derived.StillTailTactics
set_option linter.unusedVariables false
namespace Go.Proofs.YtmgdcnibmifdeaaGreatDoor
open Go.RowKit Res

theorem times_any (a b : Int) (w : World) (a0 : 0 ≤ a) (a1 : a ≤ 1000) (b0 : 0 ≤ b) (b1 : b ≤ 1000) :
    Calls Tryz.prog 112 #[.int .i64 a, .int .i64 b] w fun e w' => e = .returned (.int .i64 (tms a.toNat b.toNat : Nat)) ∧ w = w' := by
  obtain ⟨a, rfl⟩ := Int.eq_ofNat_of_zero_le a0
  obtain ⟨b, rfl⟩ := Int.eq_ofNat_of_zero_le b0
  simp only [Int.toNat_natCast]
  by_cases ha : a = 0
  · have hz : ((a : Int) == 0) = true := by rw [ha]; rfl
    have ht : tms a b = 0 := by unfold tms; rw [if_pos (.inl ha)]
    rw [ht]
    clear ha ht
    go_enter Tryz.func112, Tryz.ntmps112
    go_wp2
    go_ret
    exact ⟨rfl, rfl⟩
  · have hz : ((a : Int) == 0) = false := by rw [beq_eq_false_iff_ne]; omega
    by_cases hb : b = 0
    · have hz2 : ((b : Int) == 0) = true := by rw [hb]; rfl
      have ht : tms a b = 0 := by unfold tms; rw [if_pos (.inr hb)]
      rw [ht]
      clear hb ht
      go_enter Tryz.func112, Tryz.ntmps112
      go_wp2
      go_ret
      exact ⟨rfl, rfl⟩
    · have hz2 : ((b : Int) == 0) = false := by rw [beq_eq_false_iff_ne]; omega
      have ht := Lib.hid (tms_int (a := a) (b := b) (by omega))
      go_enter Tryz.func112, Tryz.ntmps112
      go_wp2
      go_ret
      exact ⟨ret_int ht.out, rfl⟩

theorem hexOf_any (a b c : Int) (w : World) (a0 : 0 ≤ a) (a1 : a ≤ 3) (b0 : 0 ≤ b) (b1 : b ≤ 3) (c0 : 0 ≤ c) (c1 : c ≤ 3) :
    Calls Tryz.prog 71 #[.int .i64 a, .int .i64 b, .int .i64 c] w fun e w' => ∃ v, e = .returned v ∧ Owns w.heap.size w' v (ints (hexRow a.toNat b.toNat c.toNat)) ∧ Below w.heap.size w w' := by
  obtain ⟨a, rfl⟩ := Int.eq_ofNat_of_zero_le a0
  obtain ⟨b, rfl⟩ := Int.eq_ofNat_of_zero_le b0
  obtain ⟨c, rfl⟩ := Int.eq_ofNat_of_zero_le c0
  simp only [Int.toNat_natCast]
  go_enter Tryz.func71, Tryz.ntmps71
  go_wp2
  go_loopw [7, 8] (fun v x wr => ∃ k : Nat, k ≤ 3 ∧ x = .int .i64 ((k : Int) + 1) ∧ Owns w.heap.size wr v (ints (hexTo a b c k)) ∧ Below w.heap.size w wr)
    (fun _ x _ => (4 - (intOf x).toNat))
  case atStart => exact ⟨0, by omega, rfl, Owns.lit w [(a : Int), b, c] (Nat.le_refl _) (by simp), (Below.refl _ _).alloc (Nat.le_refl _) _⟩
  case round =>
    obtain ⟨k, hk, rfl, hO, hbel⟩ := hrel
    have hle := Nat.le_of_eq (hexTo_length a b c k)
    rw [← ints_length] at hle
    have hsz := hbel.size
    by_cases hlt : k < 3
    · have ht1 := tms_le a (tms (k + 1) (k + 1))
      have ht2 := tms_le b (k + 1)
      have ht3 := tms_le (k + 1) (k + 1)
      have e1 : ((k : Int) + 1).toNat = k + 1 := by omega
      have hx1 := xor_int (a := tms a (tms (k + 1) (k + 1))) (b := tms b (k + 1)) (by omega) (by omega)
      have h3 : tms a (tms (k + 1) (k + 1)) ^^^ tms b (k + 1) < 2 ^ 2 := Nat.xor_lt_two_pow (by omega) (by omega)
      have hx2 := xor_int (a := tms a (tms (k + 1) (k + 1)) ^^^ tms b (k + 1)) (b := c) (by omega) (by omega)
      have hst := Lib.hid (hexTo_succ a b c k)
      go_wp2_with (first | (go_at_call 112; refine (times_any _ _ _ (by omega) (by omega) (by omega) (by omega)).mono ?_; rintro e w' ⟨rfl, rfl⟩) | (at_builtin; refine wpList_app rfl _ _ rfl w.heap.size _ rfl hO rfl (by omega) (by omega) ?_; intro v' w1 hO' hbel' hg'))
      go_roundw
      case rel => exact ⟨k + 1, by omega, by go_num, by rw [hst.out, ints_append]; exact hO', hbel.trans hbel'⟩
      case measure => simp [intOf]; omega
    · go_wp2
      go_ret
      obtain rfl : k = 3 := by omega
      exact ⟨_, rfl, hO, hbel⟩

theorem digitOk_any (n : Int) (w : World) :
    Calls Tryz.prog 170 #[.int .i64 n] w fun e w' => e = .returned (.bool (inB n 0 3)) ∧ w = w' := by
  go_enter Tryz.func170, Tryz.ntmps170
  go_wp2_with fail
  refine (within_any _ _ _ _).mono ?_
  rintro e w' ⟨rfl, rfl⟩
  go_wp2_with fail
  go_ret
  exact ⟨rfl, rfl⟩
theorem l2Digit_any (n : Int) (w : World) :
    Calls Tryz.prog 210 #[.int .i64 n] w fun e w' => e = .returned (.bool (inB n 0 3)) ∧ w = w' := by
  go_enter Tryz.func210, Tryz.ntmps210
  go_wp2_with fail
  refine (l6In_any _ _ _ _).mono ?_
  rintro e w' ⟨rfl, rfl⟩
  go_wp2_with fail
  go_ret
  exact ⟨rfl, rfl⟩

theorem rowOk_any (a : Option Addr) (cap : Nat) (l : List Nat) (w : World) (hl : l.length = 6) (hd : ∀ i, l.getD i 0 ≤ 3) (hr : ReadsN w a l) :
    Calls Tryz.prog 139 #[.slice a 6 cap] w fun e w' => e = .returned (.bool true) ∧ w = w' := by
  have Hd := Lib.hid hd
  have Hl := Lib.hid hl
  clear hd hl
  go_enter Tryz.func139, Tryz.ntmps139
  go_wp2
  go_loop [7] (fun x => ∃ k : Nat, k ≤ 6 ∧ x = .int .i64 (k : Int)) (fun x => (6 - (intOf x).toNat))
  case atStart => exact ⟨0, by omega, rfl⟩
  case round =>
    obtain ⟨k, hk, rfl⟩ := hrel
    by_cases hlt : k < 6
    · obtain ⟨b, off, ha, hb, hc⟩ := hr k (by rw [Hl.out]; exact hlt)
      subst ha
      have hki : (k : Int) < 6 := by omega
      have hd := Hd.out k
      generalize l.getD k 0 = y at *
      have hin : inB (y : Int) 0 3 = true := inB_true (by omega) (by omega)
      go_wp2_with fail
      refine (digitOk_any _ _).mono ?_
      rintro e w' ⟨rfl, rfl⟩
      go_wp2_with fail
      go_round
      case rel => exact ⟨k + 1, by omega, by go_num⟩
      case measure => simp [intOf]; omega
    · go_wp2
      go_ret
      exact ⟨rfl, rfl⟩

theorem l2Row_any (a : Option Addr) (cap : Nat) (l : List Nat) (w : World) (hl : l.length = 6) (hd : ∀ i, l.getD i 0 ≤ 3) (hr : ReadsN w a l) :
    Calls Tryz.prog 198 #[.slice a 6 cap] w fun e w' => e = .returned (.bool true) ∧ w = w' := by
  have Hd := Lib.hid hd
  have Hl := Lib.hid hl
  clear hd hl
  go_enter Tryz.func198, Tryz.ntmps198
  go_wp2
  go_loop [3] (fun x => ∃ k : Nat, k ≤ 6 ∧ x = .int .i64 (k : Int)) (fun x => (6 - (intOf x).toNat))
  case atStart => exact ⟨0, by omega, rfl⟩
  case round =>
    obtain ⟨k, hk, rfl⟩ := hrel
    by_cases hlt : k < 6
    · obtain ⟨b, off, ha, hb, hc⟩ := hr k (by rw [Hl.out]; exact hlt)
      subst ha
      have hki : (k : Int) < 6 := by omega
      have hd := Hd.out k
      generalize l.getD k 0 = y at *
      have hin : inB (y : Int) 0 3 = true := inB_true (by omega) (by omega)
      go_wp2_with fail
      refine (l2Digit_any _ _).mono ?_
      rintro e w' ⟨rfl, rfl⟩
      go_wp2_with fail
      go_round
      case rel => exact ⟨k + 1, by omega, by go_num⟩
      case measure => simp [intOf]; omega
    · go_wp2
      go_ret
      exact ⟨rfl, rfl⟩

end Go.Proofs.YtmgdcnibmifdeaaGreatDoor
