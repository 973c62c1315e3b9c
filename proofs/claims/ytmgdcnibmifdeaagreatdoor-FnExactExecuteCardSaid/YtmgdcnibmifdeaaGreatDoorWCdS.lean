/- Contracts of the reference's functions on the hexacode and the code. -/
import Derived.Test.YtmgdcnibmifdeaaGreatDoorWWd
import Derived.Test.YtmgdcnibmifdeaaGreatDoorCd
import Derived.Test.YtmgdcnibmifdeaaGreatDoorWFill
set_option linter.unusedVariables false
namespace Go.Proofs.YtmgdcnibmifdeaaGreatDoor
open Go.RowKit Res

/-- The product of digits in Go's own spelling. -/
theorem tms_int {a b : Nat} (h : ¬ (a = 0 ∨ b = 0)) : 1 + ((a : Int) + (b : Int) - 2) % 3 = ((tms a b : Nat) : Int) := by
  unfold tms
  rw [if_neg h]
  omega

theorem l2Times_any (a b : Int) (w : World) (a0 : 0 ≤ a) (a1 : a ≤ 1000) (b0 : 0 ≤ b) (b1 : b ≤ 1000) :
    Calls Tryz.prog 114 #[.int .i64 a, .int .i64 b] w fun e w' => e = .returned (.int .i64 (tms a.toNat b.toNat : Nat)) ∧ w = w' := by
  obtain ⟨a, rfl⟩ := Int.eq_ofNat_of_zero_le a0
  obtain ⟨b, rfl⟩ := Int.eq_ofNat_of_zero_le b0
  simp only [Int.toNat_natCast]
  by_cases ha : a = 0
  · have hz : ((a : Int) == 0) = true := by rw [ha]; rfl
    have ht : tms a b = 0 := by unfold tms; rw [if_pos (.inl ha)]
    rw [ht]
    clear ha ht
    go_enter Tryz.func114, Tryz.ntmps114
    go_wp2
    go_ret
    exact ⟨rfl, rfl⟩
  · have hz : ((a : Int) == 0) = false := by rw [beq_eq_false_iff_ne]; omega
    by_cases hb : b = 0
    · have hz2 : ((b : Int) == 0) = true := by rw [hb]; rfl
      have ht : tms a b = 0 := by unfold tms; rw [if_pos (.inr hb)]
      rw [ht]
      clear hb ht
      go_enter Tryz.func114, Tryz.ntmps114
      go_wp2
      go_ret
      exact ⟨rfl, rfl⟩
    · have hz2 : ((b : Int) == 0) = false := by rw [beq_eq_false_iff_ne]; omega
      have ht := Lib.hid (tms_int (a := a) (b := b) (by omega))
      go_enter Tryz.func114, Tryz.ntmps114
      go_wp2
      go_ret
      exact ⟨ret_int ht.out, rfl⟩

theorem xor_int {a b : Nat} (ha : a ≤ 1000000000) (hb : b ≤ 1000000000) : bits .xor .i64 (a : Int) (b : Int) = ((a ^^^ b : Nat) : Int) := i64_xor a b (by omega) (by omega)

theorem l2Of_any (a b c : Int) (w : World) (a0 : 0 ≤ a) (a1 : a ≤ 3) (b0 : 0 ≤ b) (b1 : b ≤ 3) (c0 : 0 ≤ c) (c1 : c ≤ 3) :
    Calls Tryz.prog 73 #[.int .i64 a, .int .i64 b, .int .i64 c] w fun e w' => ∃ v, e = .returned v ∧ Owns w.heap.size w' v (ints (hexRow a.toNat b.toNat c.toNat)) ∧ Below w.heap.size w w' := by
  obtain ⟨a, rfl⟩ := Int.eq_ofNat_of_zero_le a0
  obtain ⟨b, rfl⟩ := Int.eq_ofNat_of_zero_le b0
  obtain ⟨c, rfl⟩ := Int.eq_ofNat_of_zero_le c0
  simp only [Int.toNat_natCast]
  go_enter Tryz.func73, Tryz.ntmps73
  go_wp2
  go_loopw [7, 8] (fun v x wr => ∃ k : Nat, k ≤ 3 ∧ x = .int .i64 ((k : Int) + 1) ∧ Owns w.heap.size wr v (ints (hexTo a b c k)) ∧ Below w.heap.size w wr)
    (fun _ x _ => (4 - (intOf x).toNat))
  case atStart => exact ⟨0, by omega, rfl, Owns.lit w [(a : Int), b, c] (Nat.le_refl _) (by simp), (Below.refl _ _).alloc (Nat.le_refl _) _⟩
  case round =>
    obtain ⟨k, hk, rfl, hO, hbel⟩ := hrel
    have hle := Nat.le_of_eq (hexTo_length a b c k)
    rw [← ints_length] at hle
    have hsz := hbel.size
    by_cases hlt : k < 3
    · have ht1 := tms_le a (tms (k + 1) (k + 1))
      have ht2 := tms_le b (k + 1)
      have ht3 := tms_le (k + 1) (k + 1)
      have e1 : ((k : Int) + 1).toNat = k + 1 := by omega
      have hx1 := xor_int (a := tms a (tms (k + 1) (k + 1))) (b := tms b (k + 1)) (by omega) (by omega)
      have h3 : tms a (tms (k + 1) (k + 1)) ^^^ tms b (k + 1) < 2 ^ 2 := Nat.xor_lt_two_pow (by omega) (by omega)
      have hx2 := xor_int (a := tms a (tms (k + 1) (k + 1)) ^^^ tms b (k + 1)) (b := c) (by omega) (by omega)
      have hst := Lib.hid (hexTo_succ a b c k)
      go_wp2_with (first | (go_at_call 114; refine (l2Times_any _ _ _ (by omega) (by omega) (by omega) (by omega)).mono ?_; rintro e w' ⟨rfl, rfl⟩) | (at_builtin; refine wpList_app rfl _ _ rfl w.heap.size _ rfl hO rfl (by omega) (by omega) ?_; intro v' w1 hO' hbel' hg'))
      go_roundw
      case rel => exact ⟨k + 1, by omega, by go_num, by rw [hst.out, ints_append]; exact hO', hbel.trans hbel'⟩
      case measure => simp [intOf]; omega
    · go_wp2
      go_ret
      obtain rfl : k = 3 := by omega
      exact ⟨_, rfl, hO, hbel⟩

/-- The bit of a place, the place reckoned in Go's own spelling. -/
theorem bit_int2 (n : Nat) (x : Int) (k : Nat) (hx : x = ((n / 2 ^ k : Nat) : Int)) (hn : n < 9223372036854775808) : bits .and .i64 x 1 = ((bitN n k : Nat) : Int) := by
  rw [hx, show (1 : Int) = ((1 : Nat) : Int) from rfl, i64_and _ _ (Nat.lt_of_le_of_lt (Nat.div_le_self _ _) hn) (by omega), Nat.and_one_is_mod]
  rfl

theorem cdTo_succ (m k : Nat) : cdTo m (k + 1) = cdTo m k + fill ((cdRow m).getD (k + 1) 0) (bitN m 6) (bitN m (7 + k)) * 2 ^ (4 * (k + 1)) := rfl

theorem shl_step {s u e : Nat} (hs : s < 1000000000000) (hu : u < 16) (he : e ≤ 24) : wrap64 ((s : Int) + wrap64 ((u : Int) * 2 ^ e)) = ((s + u * 2 ^ e : Nat) : Int) := by
  have h1 : (2 : Nat) ^ e ≤ 2 ^ 24 := Nat.pow_le_pow_right (by omega) he
  have h2 : u * 2 ^ e ≤ 15 * 2 ^ 24 := Nat.mul_le_mul (by omega) h1
  rw [show ((u : Int) * 2 ^ e) = ((u * 2 ^ e : Nat) : Int) by push_cast; rfl, wrap64_nat _ (by omega), ← Int.natCast_add]
  exact wrap64_nat _ (by omega)

theorem l2Of_row (m : Nat) (w : World) :
    Calls Tryz.prog 73 #[.int .i64 ((m : Int) % 4), .int .i64 ((m : Int) / 4 % 4), .int .i64 ((m : Int) / 16 % 4)] w fun e w' => ∃ v, e = .returned v ∧ Owns w.heap.size w' v (ints (cdRow m)) ∧ Below w.heap.size w w' := by
  have C := l2Of_any ((m : Int) % 4) ((m : Int) / 4 % 4) ((m : Int) / 16 % 4) w (by omega) (by omega) (by omega) (by omega) (by omega) (by omega)
  rw [show ((m : Int) % 4).toNat = m % 4 by omega, show ((m : Int) / 4 % 4).toNat = m / 4 % 4 by omega, show ((m : Int) / 16 % 4).toNat = m / 16 % 4 by omega] at C
  exact C

theorem l3Of_any (m : Int) (w : World) (m0 : 0 ≤ m) (m1 : m ≤ 4095) :
    Calls Tryz.prog 43 #[.int .i64 m] w fun e w' => e = .returned (.int .i64 (code m.toNat : Nat)) ∧ Below w.heap.size w w' := by
  obtain ⟨m, rfl⟩ := Int.eq_ofNat_of_zero_le m0
  simp only [Int.toNat_natCast]
  have hb0 := Below.refl w.heap.size w
  have H6 := Lib.hid (show m / 64 % 2 = bitN m 6 from rfl)
  have h6l := bitN_le m 6
  go_enter Tryz.func43, Tryz.ntmps43
  go_wp2_with fail
  refine (l2Of_row m _).mono ?_
  rintro e w1 ⟨v1, rfl, hO1, hs1⟩
  obtain ⟨a1, c1, rfl, hR1, hl1, hc1⟩ := hO1.shapeN
  have hb1 := hb0.trans (hs1.mono hb0.size)
  clear hO1
  have hlr := cdRow_length m
  have Hlr := Lib.hid hlr
  have hrl : 6 ≤ (cdRow m).length := by omega
  have hrl2 : (cdRow m).length ≤ 6 := by omega
  have hrow := Lib.hid (cdRow_le m)
  clear hlr
  have hcode : code m = cdTo m 5 + fill ((cdRow m).getD 0 0) (bitN m 6) (cdTop m 5 ^^^ bitN m 6) := rfl
  have Hcode := Lib.hid hcode
  clear hcode
  have Hto := Lib.hid (cdTo_succ m)
  generalize cdRow m = row at *
  go_wp2_with fail
  go_loopw [5, 6, 7] (fun s t x wr => ∃ k : Nat, k ≤ 5 ∧ x = .int .i64 ((k : Int) + 1) ∧ s = .int .i64 (cdTo m k : Nat) ∧ t = .int .i64 (cdTop m k : Nat) ∧ Below w1.heap.size w1 wr)
    (fun _ _ x _ => (6 - (intOf x).toNat))
  case atStart => exact ⟨0, by omega, rfl, rfl, rfl, Below.refl _ _⟩
  case round =>
    obtain ⟨k, hk, rfl, rfl, rfl, hbel⟩ := hrel
    by_cases hlt : k < 5
    · obtain ⟨b, off, ha, hb, hc⟩ := hR1.kept hbel (k + 1) (by omega)
      subst ha
      have hlt2 : k + 1 < row.length := by omega
      have eg : row.getD (k + 1) 0 = row[k + 1] := by simp [List.getD, hlt2]
      have Eg := Lib.hid eg
      have hr := hrow.out (k + 1)
      rw [eg] at hr hc
      clear eg
      have hbk := bitN_le m (7 + k)
      have hbt : bits .and .i64 ((m : Int) / 2 ^ (6 + (k + 1))) 1 = ((bitN m (7 + k) : Nat) : Int) := by
        rw [show 6 + (k + 1) = 7 + k by omega]; exact bit_int m (7 + k) (by omega)
      have htl := cdTop_le m k
      have hxr : bits .xor .i64 ((cdTop m k : Nat) : Int) ((bitN m (7 + k) : Nat) : Int) = ((cdTop m (k + 1) : Nat) : Int) := xor_int (by omega) (by omega)
      have hfl := Lib.hid (fill_lt (row[k + 1]) (by omega) (bitN m 6) (by omega) (bitN m (7 + k)) (by omega))
      have hdl := Lib.hid (cdTo_lt m k)
      go_wp2_with (first | (go_at_call 74; refine (l3Fill_any _ _ _ _ (by omega) (by omega) (by omega) (by omega) (by omega) (by omega)).mono ?_; rintro e w2 ⟨rfl, hs2⟩))
      go_roundw
      case rel =>
        have hk4 : k ≤ 4 := by omega
        have hstep := shl_step (s := cdTo m k) (u := fill row[k + 1] (bitN m 6) (bitN m (7 + k))) (e := 4 * (k + 1))
          (Nat.lt_of_lt_of_le hdl.out (Nat.le_trans (Nat.mul_le_mul_left 16 (Nat.pow_le_pow_right (by omega) (show 4 * k ≤ 16 by omega))) (by omega))) hfl.out (by omega)
        have hto : cdTo m (k + 1) = cdTo m k + fill row[k + 1] (bitN m 6) (bitN m (7 + k)) * 2 ^ (4 * (k + 1)) := by rw [Hto.out, Eg.out]
        exact ⟨k + 1, by omega, by go_num, by rw [H6.out, hstep, hto], rfl, hbel.trans (hs2.mono hbel.size)⟩
      case measure => simp [intOf]; omega
    · obtain ⟨b, off, ha, hb, hc⟩ := hR1.kept hbel 0 (by omega)
      subst ha
      have hlt2 : 0 < row.length := by omega
      have eg : row.getD 0 0 = row[0] := by simp [List.getD, hlt2]
      have Eg := Lib.hid eg
      have hr := hrow.out 0
      rw [eg] at hr hc
      rw [Nat.add_zero] at hc
      clear eg
      have hk5 := Lib.hid (show k = 5 by omega)
      have hge : (5 : Int) ≤ (k : Int) := by omega
      have htl := cdTop_le m k
      have hxr : bits .xor .i64 ((cdTop m k : Nat) : Int) ((m : Int) / 64 % 2) = ((cdTop m k ^^^ bitN m 6 : Nat) : Int) := by
        rw [show ((m : Int) / 64 % 2) = ((bitN m 6 : Nat) : Int) by unfold bitN; omega]
        exact xor_int (by omega) (by omega)
      have hxl : cdTop m k ^^^ bitN m 6 < 2 ^ 1 := Nat.xor_lt_two_pow htl (by omega)
      have Hfl := Lib.hid (fill_lt (row[0]) (by omega) (bitN m 6) (by omega) (cdTop m k ^^^ bitN m 6) hxl)
      have Hdl := Lib.hid (show cdTo m k < 16777216 by rw [hk5.out]; exact cdTo_lt m 5)
      go_wp2_with (first | (go_at_call 74; refine (l3Fill_any _ _ _ _ (by omega) (by omega) (by omega) (by omega) (by omega) (by omega)).mono ?_; rintro e w2 ⟨rfl, hs2⟩))
      go_ret
      have hlo := Hdl.out
      have hfo := Hfl.out
      exact ⟨ret_int (by rw [H6.out, ← Int.natCast_add, wrap64_nat _ (by omega), Hcode.out, Eg.out, hk5.out]), hb1.trans ((hbel.trans (hs2.mono hbel.size)).mono hb1.size)⟩

end Go.Proofs.YtmgdcnibmifdeaaGreatDoor
