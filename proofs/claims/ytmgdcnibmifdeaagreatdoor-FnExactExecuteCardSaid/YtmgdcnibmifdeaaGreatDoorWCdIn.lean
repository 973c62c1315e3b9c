/- Contracts of the functions that ask whether a word is in the code. -/
import Derived.Test.YtmgdcnibmifdeaaGreatDoorWHexIn
set_option linter.unusedVariables false
namespace Go.Proofs.YtmgdcnibmifdeaaGreatDoor
open Go.RowKit Res

theorem col_int (n c : Nat) (hn : n ≤ 16777215) : bits .and .i64 ((n : Int) / 2 ^ (4 * c)) 15 = ((col n c : Nat) : Int) := by
  have h := Nat.div_le_self n (2 ^ (4 * c))
  rw [show ((n : Int) / 2 ^ (4 * c)) = ((n / 2 ^ (4 * c) : Nat) : Int) by push_cast; rfl, show (15 : Int) = ((15 : Nat) : Int) from rfl, i64_and _ _ (by omega) (by omega)]
  unfold col
  rw [show (15 : Nat) = 2 ^ 4 - 1 by decide, Nat.and_two_pow_sub_one_eq_mod]

theorem column_any (n c : Int) (w : World) (n0 : 0 ≤ n) (n1 : n ≤ 16777215) (c0 : 0 ≤ c) (c1 : c ≤ 5) :
    Calls Tryz.prog 93 #[.int .i64 n, .int .i64 c] w fun e w' => e = .returned (.int .i64 (col n.toNat c.toNat : Nat)) ∧ w = w' := by
  obtain ⟨n, rfl⟩ := Int.eq_ofNat_of_zero_le n0
  obtain ⟨c, rfl⟩ := Int.eq_ofNat_of_zero_le c0
  rw [Int.toNat_natCast, Int.toNat_natCast]
  have H := Lib.hid (col_int n c (by omega))
  go_enter Tryz.func93, Tryz.ntmps93
  go_wp2
  go_ret
  exact ⟨ret_int H.out, rfl⟩

theorem l3Column_any (n c : Int) (w : World) (n0 : 0 ≤ n) (n1 : n ≤ 16777215) (c0 : 0 ≤ c) (c1 : c ≤ 5) :
    Calls Tryz.prog 177 #[.int .i64 n, .int .i64 c] w fun e w' => e = .returned (.int .i64 (col n.toNat c.toNat : Nat)) ∧ w = w' := by
  obtain ⟨n, rfl⟩ := Int.eq_ofNat_of_zero_le n0
  obtain ⟨c, rfl⟩ := Int.eq_ofNat_of_zero_le c0
  rw [Int.toNat_natCast, Int.toNat_natCast]
  have H := Lib.hid (col_int n c (by omega))
  go_enter Tryz.func177, Tryz.ntmps177
  go_wp2
  go_ret
  exact ⟨ret_int H.out, rfl⟩

theorem score_any (n : Int) (w : World) (n0 : 0 ≤ n) (n1 : n ≤ 15) :
    Calls Tryz.prog 113 #[.int .i64 n] w fun e w' => e = .returned (.int .i64 (sc n.toNat : Nat)) ∧ w = w' := by
  obtain ⟨n, rfl⟩ := Int.eq_ofNat_of_zero_le n0
  rw [Int.toNat_natCast]
  go_enter Tryz.func113, Tryz.ntmps113
  go_wp2
  go_loop [3, 5] (fun s x => ∃ k : Nat, k ≤ 4 ∧ x = .int .i64 (k : Int) ∧ s = .int .i64 (scTo n k : Nat)) (fun _ x => (4 - (intOf x).toNat))
  case atStart => exact ⟨0, by omega, rfl, rfl⟩
  case round =>
    obtain ⟨k, hk, rfl, rfl⟩ := hrel
    have hlt4 := scTo_lt n k hk
    by_cases hlt : k < 4
    · cases hbit : n.testBit k
      · have hb : (bits .and .i64 ((n : Int) / 2 ^ k) 1 == 1) = false := by rw [bit_int n k (by omega)]; exact bitN_test_false hbit
        have H := Lib.hid (scTo_miss hbit)
        clear hbit
        go_wp2
        go_round
        case rel => exact ⟨k + 1, by omega, by go_num, by rw [H.out]⟩
        case measure => simp [intOf]; omega
      · have hb : (bits .and .i64 ((n : Int) / 2 ^ k) 1 == 1) = true := by rw [bit_int n k (by omega)]; exact bitN_test_true hbit
        have H := Lib.hid (scTo_hit hbit)
        have hx := Lib.hid (xor_int (a := scTo n k) (b := k) (by omega) (by omega))
        clear hbit
        go_wp2
        go_round
        case rel => exact ⟨k + 1, by omega, by go_num, by rw [H.out]; exact congrArg _ hx.out⟩
        case measure => simp [intOf]; omega
    · go_wp2
      go_ret
      obtain rfl : k = 4 := by omega
      exact ⟨rfl, rfl⟩

theorem l3Score_any (n c : Int) (w : World) (n0 : 0 ≤ n) (n1 : n ≤ 16777215) (c0 : 0 ≤ c) (c1 : c ≤ 5) :
    Calls Tryz.prog 145 #[.int .i64 n, .int .i64 c] w fun e w' => e = .returned (.int .i64 (sc (col n.toNat c.toNat) : Nat)) ∧ w = w' := by
  obtain ⟨n, rfl⟩ := Int.eq_ofNat_of_zero_le n0
  obtain ⟨c, rfl⟩ := Int.eq_ofNat_of_zero_le c0
  rw [Int.toNat_natCast, Int.toNat_natCast]
  go_enter Tryz.func145, Tryz.ntmps145
  go_wp2
  go_loop [5, 6] (fun s x => ∃ k : Nat, k ≤ 4 ∧ x = .int .i64 (k : Int) ∧ s = .int .i64 (scTo (col n c) k : Nat)) (fun _ x => (4 - (intOf x).toNat))
  case atStart => exact ⟨0, by omega, rfl, rfl⟩
  case round =>
    obtain ⟨k, hk, rfl, rfl⟩ := hrel
    have hlt4 := scTo_lt (col n c) k hk
    by_cases hlt : k < 4
    · have hcb := col_bit n c k hlt
      have e : (4 * (c : Int) + (k : Int)).toNat = 4 * c + k := by omega
      have E := Lib.hid e
      clear e
      cases hbit : n.testBit (4 * c + k)
      · have hb : (((bitN n (4 * c + k) : Nat) : Int) == 1) = false := bitN_test_false hbit
        have H := Lib.hid (scTo_miss (hcb.trans hbit))
        clear hbit hcb
        go_wp2_with fail
        refine (l1Bit_any _ _ _ (by omega) (by omega) (by omega) (by omega)).mono ?_
        rintro e w' ⟨rfl, rfl⟩
        rw [E.out, Int.toNat_natCast]
        go_wp2_with fail
        go_round
        case rel => exact ⟨k + 1, by omega, by go_num, by rw [H.out]⟩
        case measure => simp [intOf]; omega
      · have hb : (((bitN n (4 * c + k) : Nat) : Int) == 1) = true := bitN_test_true hbit
        have H := Lib.hid (scTo_hit (hcb.trans hbit))
        have hx := Lib.hid (xor_int (a := scTo (col n c) k) (b := k) (by omega) (by omega))
        clear hbit hcb
        go_wp2_with fail
        refine (l1Bit_any _ _ _ (by omega) (by omega) (by omega) (by omega)).mono ?_
        rintro e w' ⟨rfl, rfl⟩
        rw [E.out, Int.toNat_natCast]
        go_wp2_with fail
        go_round
        case rel => exact ⟨k + 1, by omega, by go_num, by rw [H.out]; exact congrArg _ hx.out⟩
        case measure => simp [intOf]; omega
    · go_wp2
      go_ret
      obtain rfl : k = 4 := by omega
      exact ⟨rfl, rfl⟩

theorem scores_any (n : Int) (w : World) (n0 : 0 ≤ n) (n1 : n ≤ 16777215) :
    Calls Tryz.prog 92 #[.int .i64 n] w fun e w' => ∃ v, e = .returned v ∧ Owns w.heap.size w' v (ints (scl n.toNat)) ∧ Below w.heap.size w w' := by
  obtain ⟨n, rfl⟩ := Int.eq_ofNat_of_zero_le n0
  rw [Int.toNat_natCast]
  go_enter Tryz.func92, Tryz.ntmps92
  go_wp2
  go_loopw [3, 6] (fun v x wr => ∃ k : Nat, k ≤ 6 ∧ x = .int .i64 (k : Int) ∧ Owns w.heap.size wr v (ints (sclTo n k)) ∧ Below w.heap.size w wr)
    (fun _ x _ => (6 - (intOf x).toNat))
  case atStart => exact ⟨0, by omega, rfl, Owns.empty w (Nat.le_refl _), (Below.refl _ _).alloc (Nat.le_refl _) _⟩
  case round =>
    obtain ⟨k, hk, rfl, hO, hbel⟩ := hrel
    have hle := Nat.le_of_eq (sclTo_length n k)
    rw [← ints_length] at hle
    have hsz := hbel.size
    by_cases hlt : k < 6
    · have hst := Lib.hid (sclTo_succ n k)
      have hcl := col_lt n k
      have hc2 : (k : Int) ≤ 5 := by omega
      go_wp2_with (first | (go_at_call 93; refine (column_any _ _ _ (by omega) (by omega) (by omega) (by omega)).mono ?_; rintro e w' ⟨rfl, rfl⟩; rw [Int.toNat_natCast, Int.toNat_natCast]) | (go_at_call 113; refine (score_any _ _ (by omega) (by omega)).mono ?_; rintro e w' ⟨rfl, rfl⟩; rw [Int.toNat_natCast]) | (at_builtin; refine wpList_app rfl _ _ rfl w.heap.size _ rfl hO rfl (by omega) (by omega) ?_; intro v' w1 hO' hbel' hg'))
      go_roundw
      case rel => exact ⟨k + 1, by omega, by go_num, by rw [hst.out, ints_append]; exact hO', hbel.trans hbel'⟩
      case measure => simp [intOf]; omega
    · go_wp2
      go_ret
      obtain rfl : k = 6 := by omega
      exact ⟨_, rfl, hO, hbel⟩

theorem l3Scores_any (n : Int) (w : World) (n0 : 0 ≤ n) (n1 : n ≤ 16777215) :
    Calls Tryz.prog 102 #[.int .i64 n] w fun e w' => ∃ v, e = .returned v ∧ Owns w.heap.size w' v (ints (scl n.toNat)) ∧ Below w.heap.size w w' := by
  obtain ⟨n, rfl⟩ := Int.eq_ofNat_of_zero_le n0
  rw [Int.toNat_natCast]
  go_enter Tryz.func102, Tryz.ntmps102
  go_wp2
  go_loopw [3, 4] (fun v x wr => ∃ k : Nat, k ≤ 6 ∧ x = .int .i64 (k : Int) ∧ Owns w.heap.size wr v (ints (sclTo n k)) ∧ Below w.heap.size w wr)
    (fun _ x _ => (6 - (intOf x).toNat))
  case atStart => exact ⟨0, by omega, rfl, Owns.empty w (Nat.le_refl _), (Below.refl _ _).alloc (Nat.le_refl _) _⟩
  case round =>
    obtain ⟨k, hk, rfl, hO, hbel⟩ := hrel
    have hle := Nat.le_of_eq (sclTo_length n k)
    rw [← ints_length] at hle
    have hsz := hbel.size
    by_cases hlt : k < 6
    · have hst := Lib.hid (sclTo_succ n k)
      have hcl := col_lt n k
      have hc2 : (k : Int) ≤ 5 := by omega
      go_wp2_with (first | (go_at_call 145; refine (l3Score_any _ _ _ (by omega) (by omega) (by omega) (by omega)).mono ?_; rintro e w' ⟨rfl, rfl⟩; rw [Int.toNat_natCast, Int.toNat_natCast]) | (at_builtin; refine wpList_app rfl _ _ rfl w.heap.size _ rfl hO rfl (by omega) (by omega) ?_; intro v' w1 hO' hbel' hg'))
      go_roundw
      case rel => exact ⟨k + 1, by omega, by go_num, by rw [hst.out, ints_append]; exact hO', hbel.trans hbel'⟩
      case measure => simp [intOf]; omega
    · go_wp2
      go_ret
      obtain rfl : k = 6 := by omega
      exact ⟨_, rfl, hO, hbel⟩

theorem l3Top_any (n : Int) (w : World) (n0 : 0 ≤ n) (n1 : n ≤ 16777215) :
    Calls Tryz.prog 176 #[.int .i64 n] w fun e w' => e = .returned (.int .i64 (topS n.toNat 6 % 2 : Nat)) ∧ w = w' := by
  obtain ⟨n, rfl⟩ := Int.eq_ofNat_of_zero_le n0
  rw [Int.toNat_natCast]
  go_enter Tryz.func176, Tryz.ntmps176
  go_wp2
  go_loop [3, 4] (fun s x => ∃ k : Nat, k ≤ 6 ∧ x = .int .i64 (k : Int) ∧ s = .int .i64 (topS n k % 2 : Nat)) (fun _ x => (6 - (intOf x).toNat))
  case atStart => exact ⟨0, by omega, rfl, rfl⟩
  case round =>
    obtain ⟨k, hk, rfl, rfl⟩ := hrel
    have hm : topS n k % 2 < 2 := Nat.mod_lt _ (by omega)
    have hbn := bitN_le n (4 * k)
    by_cases hlt : k < 6
    · have hst := Lib.hid (topX_step n k)
      have hx := Lib.hid (xor_int (a := topS n k % 2) (b := bitN n (4 * k)) (by omega) (by omega))
      have E := Lib.hid (show (4 * (k : Int)).toNat = 4 * k by omega)
      generalize topS n k % 2 = t at *
      go_wp2_with fail
      refine (l1Bit_any _ _ _ (by omega) (by omega) (by omega) (by omega)).mono ?_
      rintro e w' ⟨rfl, rfl⟩
      rw [E.out, Int.toNat_natCast]
      go_wp2_with fail
      go_round
      case rel => exact ⟨k + 1, by omega, by go_num, by rw [← hst.out]; exact congrArg _ hx.out⟩
      case measure => simp [intOf]; omega
    · go_wp2
      go_ret
      obtain rfl : k = 6 := by omega
      exact ⟨rfl, rfl⟩

end Go.Proofs.YtmgdcnibmifdeaaGreatDoor
