/- Contracts of the functions on words. -/
import Derived.Test.YtmgdcnibmifdeaaGreatDoorWIn
import Derived.Test.YtmgdcnibmifdeaaGreatDoorWd
import Derived.Test.YtmgdcnibmifdeaaGreatDoorPop
set_option linter.unusedVariables false
namespace Go.Proofs.YtmgdcnibmifdeaaGreatDoor
open Go.RowKit Res

theorem implWordValid_any (n : Int) (w : World) :
    Calls Tryz.prog 45 #[.int .i64 n] w fun e w' => e = .returned (.bool (inB n 0 16777215)) ∧ w = w' := by
  go_enter Tryz.func45, Tryz.ntmps45
  go_wp2_with (go_at_call 40; refine (within_any _ _ _ _).mono ?_; rintro e w' ⟨rfl, rfl⟩)
  go_ret
  exact ⟨rfl, rfl⟩

theorem specWordValid_any (n : Int) (w : World) :
    Calls Tryz.prog 47 #[.int .i64 n] w fun e w' => e = .returned (.bool (inB n 0 16777215)) ∧ w = w' := by
  go_enter Tryz.func47, Tryz.ntmps47
  go_wp2_with (go_at_call 42; refine (l6In_any _ _ _ _).mono ?_; rintro e w' ⟨rfl, rfl⟩)
  go_ret
  exact ⟨rfl, rfl⟩

theorem placeOk_any (n : Int) (w : World) :
    Calls Tryz.prog 135 #[.int .i64 n] w fun e w' => e = .returned (.bool (inB n 0 23)) ∧ w = w' := by
  go_enter Tryz.func135, Tryz.ntmps135
  go_wp2_with (go_at_call 40; refine (within_any _ _ _ _).mono ?_; rintro e w' ⟨rfl, rfl⟩)
  go_ret
  exact ⟨rfl, rfl⟩

/-- The bit of a place. -/
theorem bit_int (n k : Nat) (hn : n < 9223372036854775808) : bits .and .i64 ((n : Int) / 2 ^ k) 1 = ((bitN n k : Nat) : Int) := by
  have e : ((n : Int) / 2 ^ k) = ((n / 2 ^ k : Nat) : Int) := by push_cast; rfl
  rw [e, show (1 : Int) = ((1 : Nat) : Int) from rfl, i64_and _ _ (Nat.lt_of_le_of_lt (Nat.div_le_self _ _) hn) (by omega)]
  rw [Nat.and_one_is_mod]
  rfl

theorem l1Bit_any (n k : Int) (w : World) (hn0 : 0 ≤ n) (hn : n < 9223372036854775808) (hk0 : 0 ≤ k) (hk : k ≤ 62) :
    Calls Tryz.prog 48 #[.int .i64 n, .int .i64 k] w fun e w' => e = .returned (.int .i64 (bitN n.toNat k.toNat : Nat)) ∧ w = w' := by
  obtain ⟨n, rfl⟩ := Int.eq_ofNat_of_zero_le hn0
  obtain ⟨k, rfl⟩ := Int.eq_ofNat_of_zero_le hk0
  rw [Int.toNat_natCast, Int.toNat_natCast]
  go_enter Tryz.func48, Tryz.ntmps48
  go_wp2
  go_ret
  exact ⟨ret_int (bit_int n k (by omega)), rfl⟩

theorem placesOf_any (n : Int) (w : World) (hn0 : 0 ≤ n) (hn : n ≤ 16777215) :
    Calls Tryz.prog 91 #[.int .i64 n] w fun e w' => ∃ v, e = .returned v ∧ Owns w.heap.size w' v (ints (places n.toNat)) ∧ Below w.heap.size w w' := by
  obtain ⟨n, rfl⟩ := Int.eq_ofNat_of_zero_le hn0
  rw [Int.toNat_natCast]
  go_enter Tryz.func91, Tryz.ntmps91
  go_wp2
  go_loopw [3, 6] (fun v x wr => ∃ k : Nat, k ≤ 24 ∧ x = .int .i64 (k : Int) ∧ Owns w.heap.size wr v (ints (placesTo n k)) ∧ Below w.heap.size w wr)
    (fun _ x _ => (24 - (intOf x).toNat))
  case atStart => exact ⟨0, by omega, rfl, Owns.empty w (Nat.le_refl _), (Below.refl _ _).alloc (Nat.le_refl _) _⟩
  case round =>
    obtain ⟨k, hk, rfl, hO, hbel⟩ := hrel
    have hlen := placesTo_length n k
    rw [← ints_length] at hlen
    have hsz := hbel.size
    by_cases hlt : k < 24
    · cases hbit : n.testBit k
      · have hb : (bits .and .i64 ((n : Int) / 2 ^ k) 1 == 1) = false := by
          rw [bit_int n k (by omega)]
          exact bitN_test_false hbit
        have hst := placesTo_miss hbit
        have Hst := Lib.hid hst
        clear hbit hst
        go_wp2
        go_roundw
        case rel => exact ⟨k + 1, by omega, by go_num, by rw [Hst.out]; exact hO, hbel⟩
        case measure => simp [intOf]; omega
      · have hb : (bits .and .i64 ((n : Int) / 2 ^ k) 1 == 1) = true := by
          rw [bit_int n k (by omega)]
          exact bitN_test_true hbit
        have hst := placesTo_hit hbit
        have Hst := Lib.hid hst
        clear hbit hst
        go_wp2_with (at_builtin; refine wpList_app rfl _ _ rfl w.heap.size _ rfl hO rfl (by omega) (by omega) ?_; intro v' w1 hO' hbel' hg')
        go_roundw
        case rel => exact ⟨k + 1, by omega, by go_num, by rw [Hst.out, ints_append]; exact hO', hbel.trans hbel'⟩
        case measure => simp [intOf]; omega
    · go_wp2
      go_ret
      obtain rfl : k = 24 := by omega
      exact ⟨_, rfl, hO, hbel⟩

theorem pop_s1 (x m : Nat) (hx : x < 4294967296) (hm : m < 9223372036854775808) : IntKind.u64.wrap (bits .and .u64 ((x : Int) / 2) (m : Int) + bits .and .u64 (x : Int) (m : Int)) = (pop1 x m : Nat) := by
  have h1 : x / 2 &&& m ≤ x / 2 := Nat.and_le_left
  have h2 : x &&& m ≤ x := Nat.and_le_left
  rw [show ((x : Int) / 2) = ((x / 2 : Nat) : Int) by push_cast; rfl, u64_and_nat _ _ (by omega) (by omega), u64_and_nat _ _ (by omega) (by omega), ← Int.natCast_add, wrapU_nat _ (by omega)]
  rfl
theorem pop_s2 (x m : Nat) (hx : x < 4294967296) (hm : m < 9223372036854775808) : IntKind.u64.wrap (bits .and .u64 ((x : Int) / 4) (m : Int) + bits .and .u64 (x : Int) (m : Int)) = (pop2 x m : Nat) := by
  have h1 : x / 4 &&& m ≤ x / 4 := Nat.and_le_left
  have h2 : x &&& m ≤ x := Nat.and_le_left
  rw [show ((x : Int) / 4) = ((x / 4 : Nat) : Int) by push_cast; rfl, u64_and_nat _ _ (by omega) (by omega), u64_and_nat _ _ (by omega) (by omega), ← Int.natCast_add, wrapU_nat _ (by omega)]
  rfl
theorem pop_s3 (x : Nat) (hx : x < 4294967296) : bits .and .u64 (IntKind.u64.wrap ((x : Int) / 16 + (x : Int))) 1085102592571150095 = (pop3 x : Nat) := by
  rw [show ((x : Int) / 16 + (x : Int)) = ((x / 16 + x : Nat) : Int) by omega, wrapU_nat _ (by omega),
    show (1085102592571150095 : Int) = ((1085102592571150095 : Nat) : Int) from rfl, u64_and_nat _ _ (by omega) (by omega)]
  rfl
theorem pop_s4 (x : Nat) (hx : x < 8589934592) : IntKind.u64.wrap ((x : Int) + (x : Int) / 256) = (pop4 x : Nat) := by
  rw [show ((x : Int) + (x : Int) / 256) = ((x + x / 256 : Nat) : Int) by omega, wrapU_nat _ (by omega)]
  rfl
theorem pop_s5 (x : Nat) (hx : x < 17179869184) : IntKind.u64.wrap ((x : Int) + (x : Int) / 65536) = (pop5 x : Nat) := by
  rw [show ((x : Int) + (x : Int) / 65536) = ((x + x / 65536 : Nat) : Int) by omega, wrapU_nat _ (by omega)]
  rfl
theorem pop_s6 (x : Nat) (hx : x < 34359738368) : IntKind.u64.wrap ((x : Int) + (x : Int) / 4294967296) = (pop6 x : Nat) := by
  rw [show ((x : Int) + (x : Int) / 4294967296) = ((x + x / 4294967296 : Nat) : Int) by omega, wrapU_nat _ (by omega)]
  rfl
theorem pop1_le (x m : Nat) : pop1 x m ≤ x / 2 + x := Nat.add_le_add Nat.and_le_left Nat.and_le_left
theorem pop2_le (x m : Nat) : pop2 x m ≤ x / 4 + x := Nat.add_le_add Nat.and_le_left Nat.and_le_left
theorem pop3_le (x : Nat) : pop3 x ≤ x / 16 + x := Nat.and_le_left

/-- The stages one behind the other. -/
theorem pop_stages (n : Nat) (hn : n ≤ 16777215) :
    IntKind.u64.wrap (bits .and .u64 ((n : Int) / 2) 6148914691236517205 + bits .and .u64 (n : Int) 6148914691236517205) = ((pop1 n 6148914691236517205 : Nat) : Int) := by
  exact pop_s1 n 6148914691236517205 (by omega) (by omega)

theorem onesCount64_any (n : Int) (w : World) (hn0 : 0 ≤ n) (hn : n ≤ 16777215) :
    Calls Tryz.prog 117 #[.int .u64 n] w fun e w' => e = .returned (.int .i64 (wt n.toNat : Nat)) ∧ w = w' := by
  obtain ⟨n, rfl⟩ := Int.eq_ofNat_of_zero_le hn0
  rw [Int.toNat_natCast, ← pop_eq n (by omega)]
  have s1 := pop_stages n (by omega)
  have b1 := pop1_le n 6148914691236517205
  generalize hx1 : pop1 n 6148914691236517205 = x1 at s1 b1
  have s2 : IntKind.u64.wrap (bits .and .u64 ((x1 : Int) / 4) 3689348814741910323 + bits .and .u64 (x1 : Int) 3689348814741910323) = ((pop2 x1 3689348814741910323 : Nat) : Int) :=
    pop_s2 x1 3689348814741910323 (by omega) (by omega)
  have b2 := pop2_le x1 3689348814741910323
  generalize hx2 : pop2 x1 3689348814741910323 = x2 at s2 b2
  have s3 := pop_s3 x2 (by omega)
  have b3 := pop3_le x2
  generalize hx3 : pop3 x2 = x3 at s3 b3
  have s4 := pop_s4 x3 (by omega)
  have b4 : pop4 x3 ≤ x3 + x3 / 256 := Nat.le_refl _
  generalize hx4 : pop4 x3 = x4 at s4 b4
  have s5 := pop_s5 x4 (by omega)
  have b5 : pop5 x4 ≤ x4 + x4 / 65536 := Nat.le_refl _
  generalize hx5 : pop5 x4 = x5 at s5 b5
  have s6 := pop_s6 x5 (by omega)
  have b6 : pop6 x5 ≤ x5 + x5 / 4294967296 := Nat.le_refl _
  generalize hx6 : pop6 x5 = x6 at s6 b6
  have s7 : bits .and .i64 (x6 : Int) 127 = ((x6 &&& 127 : Nat) : Int) := i64_and x6 127 (by omega) (by omega)
  have hp : pop n = x6 &&& 127 := by unfold pop; rw [hx1, hx2, hx3, hx4, hx5, hx6]
  rw [hp]
  have hx : x6 < 1000000000 := by omega
  clear hx1 hx2 hx3 hx4 hx5 hx6 hp b1 b2 b3 b4 b5 b6
  have S := Lib.hid (And.intro s1 (And.intro s2 (And.intro s3 (And.intro s4 (And.intro s5 (And.intro s6 s7))))))
  clear s1 s2 s3 s4 s5 s6 s7
  go_enter Tryz.func117, Tryz.ntmps117
  go_wp2
  go_ret
  refine ⟨ret_int ?_, rfl⟩
  obtain ⟨s1, s2, s3, s4, s5, s6, s7⟩ := S.out
  rw [s1, s2, s3, s4, s5, s6, wrap64_nat _ (by omega)]
  exact s7

theorem onesCount_any (n : Int) (w : World) (hn0 : 0 ≤ n) (hn : n ≤ 16777215) :
    Calls Tryz.prog 77 #[.int .u64 n] w fun e w' => e = .returned (.int .i64 (wt n.toNat : Nat)) ∧ w = w' := by
  go_enter Tryz.func77, Tryz.ntmps77
  go_wp2_with (go_at_call 117; refine (onesCount64_any _ _ hn0 hn).mono ?_; rintro e w' ⟨rfl, rfl⟩)
  go_ret
  exact ⟨rfl, rfl⟩

theorem weight_any (n : Int) (w : World) (hn0 : 0 ≤ n) (hn : n ≤ 16777215) :
    Calls Tryz.prog 49 #[.int .i64 n] w fun e w' => e = .returned (.int .i64 (wt n.toNat : Nat)) ∧ w = w' := by
  have hw : IntKind.u64.wrap n = n := by rw [IntKind.wrap_u64]; omega
  go_enter Tryz.func49, Tryz.ntmps49
  go_wp2_with (go_at_call 77; refine (onesCount_any _ _ (by omega) (by omega)).mono ?_; rintro e w' ⟨rfl, rfl⟩)
  go_ret
  exact ⟨rfl, rfl⟩

theorem WordWeight_ok (n : Int) (w : World) (hn0 : 0 ≤ n) (hn : n ≤ 16777215) :
    Calls Tryz.prog 22 #[.int .i64 n] w fun e w' => e = .returned (.int .i64 (wt n.toNat : Nat)) ∧ w = w' := by
  have hb : inB n 0 16777215 = true := inB_true hn0 hn
  go_enter Tryz.func22, Tryz.ntmps22
  go_wp2_with (first | (go_at_call 45; refine (implWordValid_any _ _).mono ?_; rintro e w' ⟨rfl, rfl⟩) | (go_at_call 49; refine (weight_any _ _ hn0 hn).mono ?_; rintro e w' ⟨rfl, rfl⟩))
  go_ret
  exact ⟨rfl, rfl⟩

theorem l1Weight_any (n : Int) (w : World) (hn0 : 0 ≤ n) (hn : n ≤ 16777215) :
    Calls Tryz.prog 80 #[.int .i64 n] w fun e w' => e = .returned (.int .i64 (wt n.toNat : Nat)) ∧ w = w' := by
  obtain ⟨n, rfl⟩ := Int.eq_ofNat_of_zero_le hn0
  rw [Int.toNat_natCast]
  go_enter Tryz.func80, Tryz.ntmps80
  go_wp2
  go_loop [3, 4] (fun s x => ∃ k : Nat, k ≤ 24 ∧ x = .int .i64 (k : Int) ∧ s = .int .i64 (wtTo n k : Nat))
    (fun _ x => (24 - (intOf x).toNat))
  case atStart => exact ⟨0, by omega, rfl, rfl⟩
  case round =>
    obtain ⟨k, hk, rfl, rfl⟩ := hrel
    have hle := wtTo_le n k
    have hb := bitN_le n k
    by_cases hlt : k < 24
    · go_wp2_with (go_at_call 48; refine (l1Bit_any _ _ _ (by omega) (by omega) (by omega) (by omega)).mono ?_; rintro e w' ⟨rfl, rfl⟩)
      go_round
      case rel => exact ⟨k + 1, by omega, by go_num, by rw [show wtTo n (k + 1) = wtTo n k + bitN n k from rfl]; push_cast; rfl⟩
      case measure => simp [intOf]; omega
    · go_wp2
      go_ret
      obtain rfl : k = 24 := by omega
      exact ⟨rfl, rfl⟩

end Go.Proofs.YtmgdcnibmifdeaaGreatDoor
