/- Contracts of the functions on residues: what each returns; nothing in memory changes. -/
import Derived.Test.YtdniiohbalohlaaRd
import Derived.Test.YtdniiohbalohlaaRes
import Derived.Test.YtdniiohbalohlaaBit
import Derived.WalkKit
import Derived.WalkLawsBesides
import Derived.Lib.Hide
set_option linter.unusedVariables false
namespace Go.Proofs.Ytdniiohbalohlaa
open Go.RowKit Res


theorem within_any (n lo hi : Int) (w : World) :
    Calls Try.prog 63 #[.int .i64 n, .int .i64 lo, .int .i64 hi] w fun e w' => e = .returned (.bool (inB n lo hi)) ∧ w = w' := by
  go_enter Try.func63, Try.ntmps63
  go_wp2
  all_goals
    go_ret
    exact ⟨ret_bool (by simp [inB]; omega), rfl⟩

theorem l6In_any (n lo hi : Int) (w : World) :
    Calls Try.prog 53 #[.int .i64 n, .int .i64 lo, .int .i64 hi] w fun e w' => e = .returned (.bool (inB n lo hi)) ∧ w = w' := by
  go_enter Try.func53, Try.ntmps53
  go_wp2
  all_goals
    go_ret
    exact ⟨ret_bool (by simp [inB]; omega), rfl⟩

theorem residue_any (n : Int) (w : World) :
    Calls Try.prog 40 #[.int .i64 n] w fun e w' => e = .returned (.bool (inB n 0 22)) ∧ w = w' := by
  go_enter Try.func40, Try.ntmps40
  go_wp2_with (go_at_call 63; refine (within_any _ _ _ _).mono ?_; rintro e w' ⟨rfl, rfl⟩)
  go_ret
  exact ⟨rfl, rfl⟩

theorem mul_bd {a b : Int} (m n : Int) (ha0 : 0 ≤ a) (ha : a ≤ m) (hb0 : 0 ≤ b) (hb : b ≤ n) : 0 ≤ a * b ∧ a * b ≤ m * n :=
  ⟨Int.mul_nonneg ha0 hb0, Int.mul_le_mul ha hb hb0 (by omega)⟩

theorem square_any (n : Int) (w : World) :
    Calls Try.prog 41 #[.int .i64 n] w fun e w' => e = .returned (.bool (sq n)) ∧ w = w' := by
  go_enter Try.func41, Try.ntmps41
  go_wp2
  go_loop [3] (fun x => ∃ k : Nat, k ≤ 22 ∧ x = .int .i64 ((k : Int) + 1) ∧ ∀ j : Nat, j < k → ¬ (((j : Int) + 1) * ((j : Int) + 1)) % 23 = n)
    (fun x => (24 - (intOf x).toNat))
  case atStart => exact ⟨0, by omega, rfl, by omega⟩
  case round =>
    obtain ⟨k, hk, rfl, hn⟩ := hrel
    have hb := mul_bd 23 23 (a := (k : Int) + 1) (b := (k : Int) + 1) (by omega) (by omega) (by omega) (by omega)
    go_wp2
    · have h1 : (k : Int) + 1 < 23 := by assumption
      have h2 : (((k : Int) + 1) * ((k : Int) + 1) % 23 == n) = true := by assumption
      go_ret
      exact ⟨ret_bool (sq_of n k (by omega) (by simpa using h2)).symm, rfl⟩
    · have h1 : (k : Int) + 1 < 23 := by assumption
      have h2 : (((k : Int) + 1) * ((k : Int) + 1) % 23 == n) = false := by assumption
      go_round
      case rel =>
        refine ⟨k + 1, by omega, by go_num, fun j hj => ?_⟩
        by_cases h : j < k
        · exact hn j h
        · obtain rfl : j = k := by omega
          simpa using h2
      case measure => simp [intOf]; omega
    · have h1 : (23 : Int) ≤ (k : Int) + 1 := by assumption
      go_ret
      obtain rfl : k = 22 := by omega
      exact ⟨ret_bool (sq_not n hn).symm, rfl⟩


theorem l8Is_any (n : Int) (w : World) :
    Calls Try.prog 38 #[.int .i64 n] w fun e w' => e = .returned (.bool (inB n 0 22)) ∧ w = w' := by
  go_enter Try.func38, Try.ntmps38
  go_wp2_with (go_at_call 53; refine (l6In_any _ _ _ _).mono ?_; rintro e w' ⟨rfl, rfl⟩)
  go_ret
  exact ⟨rfl, rfl⟩

theorem l8Square_any (n : Int) (w : World) :
    Calls Try.prog 39 #[.int .i64 n] w fun e w' => e = .returned (.bool (sq n)) ∧ w = w' := by
  go_enter Try.func39, Try.ntmps39
  go_wp2
  go_loop [3] (fun x => ∃ k : Nat, k ≤ 22 ∧ x = .int .i64 ((k : Int) + 1) ∧ ∀ j : Nat, j < k → ¬ (((j : Int) + 1) * ((j : Int) + 1)) % 23 = n)
    (fun x => (24 - (intOf x).toNat))
  case atStart => exact ⟨0, by omega, rfl, by omega⟩
  case round =>
    obtain ⟨k, hk, rfl, hn⟩ := hrel
    have hb := mul_bd 23 23 (a := (k : Int) + 1) (b := (k : Int) + 1) (by omega) (by omega) (by omega) (by omega)
    go_wp2
    · have h1 : (k : Int) + 1 < 23 := by assumption
      have h2 : (((k : Int) + 1) * ((k : Int) + 1) % 23 == n) = true := by assumption
      go_ret
      exact ⟨ret_bool (sq_of n k (by omega) (by simpa using h2)).symm, rfl⟩
    · have h1 : (k : Int) + 1 < 23 := by assumption
      have h2 : (((k : Int) + 1) * ((k : Int) + 1) % 23 == n) = false := by assumption
      go_round
      case rel =>
        refine ⟨k + 1, by omega, by go_num, fun j hj => ?_⟩
        by_cases h : j < k
        · exact hn j h
        · obtain rfl : j = k := by omega
          simpa using h2
      case measure => simp [intOf]; omega
    · have h1 : (23 : Int) ≤ (k : Int) + 1 := by assumption
      go_ret
      obtain rfl : k = 22 := by omega
      exact ⟨ret_bool (sq_not n hn).symm, rfl⟩

theorem implResidueSquare_any (n : Int) (w : World) :
    Calls Try.prog 16 #[.int .i64 n] w fun e w' => e = .returned (.bool (inB n 0 22 && sq n)) ∧ w = w' := by
  cases h : inB n 0 22
  all_goals
    go_enter Try.func16, Try.ntmps16
    go_wp2_with (first | (go_at_call 40; refine (residue_any _ _).mono ?_; rintro e w' ⟨rfl, rfl⟩) | (go_at_call 41; refine (square_any _ _).mono ?_; rintro e w' ⟨rfl, rfl⟩))
    all_goals
      go_ret
      exact ⟨ret_bool (by simp), rfl⟩

theorem specResidueSquare_any (n : Int) (w : World) :
    Calls Try.prog 15 #[.int .i64 n] w fun e w' => e = .returned (.bool (inB n 0 22 && sq n)) ∧ w = w' := by
  cases h : inB n 0 22
  all_goals
    go_enter Try.func15, Try.ntmps15
    go_wp2_with (first | (go_at_call 38; refine (l8Is_any _ _).mono ?_; rintro e w' ⟨rfl, rfl⟩) | (go_at_call 39; refine (l8Square_any _ _).mono ?_; rintro e w' ⟨rfl, rfl⟩))
    all_goals
      go_ret
      exact ⟨ret_bool (by simp), rfl⟩

theorem over_any (n : Int) (w : World) (h0 : 1 ≤ n) (h1 : n ≤ 22) :
    Calls Try.prog 43 #[.int .i64 n] w fun e w' => e = .returned (.int .i64 (invN n.toNat : Nat)) ∧ w = w' := by
  obtain ⟨n, rfl⟩ := Int.eq_ofNat_of_zero_le (show 0 ≤ n by omega)
  rw [Int.toNat_natCast]
  have hs := invN_spec (n := n) (by omega) (by omega)
  have H := Lib.hid hs.1
  obtain ⟨-, hs1, hs2⟩ := hs
  go_enter Try.func43, Try.ntmps43
  go_wp2
  go_loop [3] (fun x => ∃ k : Nat, k < invN n ∧ x = .int .i64 ((k : Int) + 1))
    (fun x => (24 - (intOf x).toNat))
  case atStart => exact ⟨0, by omega, rfl⟩
  case round =>
    obtain ⟨k, hk, rfl⟩ := hrel
    have hb := mul_bd 22 22 (a := (n : Int)) (b := (k : Int) + 1) (by omega) (by omega) (by omega) (by omega)
    by_cases hx : n * (k + 1) % 23 = 1
    · have he : ((n : Int) * ((k : Int) + 1) % 23 != 1) = false := by
        have : (n : Int) * ((k : Int) + 1) % 23 = 1 := by exact_mod_cast hx
        simp [this]
      have hk2 := Lib.hid (invN_eq (n := n) (x := k + 1) (by omega) (by omega) (by omega) (by omega) hx)
      clear hx
      go_wp2
      go_ret
      exact ⟨ret_int (by rw [hk2.out]; rfl), rfl⟩
    · have he : ((n : Int) * ((k : Int) + 1) % 23 != 1) = true := by
        have : ¬ (n : Int) * ((k : Int) + 1) % 23 = 1 := fun h => hx (by exact_mod_cast h)
        simp [this]
      have hk2 : ¬ invN n = k + 1 := fun h => by have := H.out; rw [h] at this; exact hx this
      clear hx
      go_wp2
      go_round
      case rel => exact ⟨k + 1, by omega, by go_num⟩
      case measure => simp [intOf]; omega


theorem l8Turned_any (n : Int) (w : World) (h0 : 1 ≤ n) (h1 : n ≤ 22) :
    Calls Try.prog 42 #[.int .i64 n] w fun e w' => e = .returned (.int .i64 (invN n.toNat : Nat)) ∧ w = w' := by
  obtain ⟨n, rfl⟩ := Int.eq_ofNat_of_zero_le (show 0 ≤ n by omega)
  rw [Int.toNat_natCast]
  have hs := invN_spec (n := n) (by omega) (by omega)
  have H := Lib.hid hs.1
  obtain ⟨-, hs1, hs2⟩ := hs
  go_enter Try.func42, Try.ntmps42
  go_wp2
  go_loop [3] (fun x => ∃ k : Nat, k < invN n ∧ x = .int .i64 ((k : Int) + 1))
    (fun x => (24 - (intOf x).toNat))
  case atStart => exact ⟨0, by omega, rfl⟩
  case round =>
    obtain ⟨k, hk, rfl⟩ := hrel
    have hb := mul_bd 22 22 (a := (k : Int) + 1) (b := (n : Int)) (by omega) (by omega) (by omega) (by omega)
    by_cases hx : n * (k + 1) % 23 = 1
    · have he : (((k : Int) + 1) * (n : Int) % 23 == 1) = true := by
        have : ((k : Int) + 1) * (n : Int) % 23 = 1 := by rw [Int.mul_comm]; exact_mod_cast hx
        simp [this]
      have hk2 := Lib.hid (invN_eq (n := n) (x := k + 1) (by omega) (by omega) (by omega) (by omega) hx)
      clear hx
      go_wp2
      go_ret
      exact ⟨ret_int (by rw [hk2.out]; rfl), rfl⟩
    · have he : (((k : Int) + 1) * (n : Int) % 23 == 1) = false := by
        have : ¬ ((k : Int) + 1) * (n : Int) % 23 = 1 := fun h => hx (by rw [Int.mul_comm] at h; exact_mod_cast h)
        simp [this]
      have hk2 : ¬ invN n = k + 1 := fun h => by have := H.out; rw [h] at this; exact hx this
      clear hx
      go_wp2
      go_round
      case rel => exact ⟨k + 1, by omega, by go_num⟩
      case measure => simp [intOf]; omega

theorem l8Mod_any (n : Int) (w : World) (h0 : -1000000 ≤ n) (h1 : n ≤ 1000000) :
    Calls Try.prog 64 #[.int .i64 n] w fun e w' => e = .returned (.int .i64 (n % 23)) ∧ w = w' := by
  have ht := tmod_cases n 23 (by omega)
  have hb : -22 ≤ n.tmod 23 ∧ n.tmod 23 ≤ 22 := by omega
  have hm : (n.tmod 23 + 23) % 23 = n % 23 := by omega
  clear ht
  have H := Lib.hid hm
  clear hm
  go_enter Try.func64, Try.ntmps64
  go_wp2
  go_ret
  exact ⟨ret_int (by first | exact H.out | (have := H.out; omega)), rfl⟩

theorem implResidueTurned_no (n : Int) (w : World) (h : inB n 1 22 = false) :
    Calls Try.prog 18 #[.int .i64 n] w fun e w' => e = .returned (.tuple #[.int .i64 0, .bool false]) ∧ w = w' := by
  by_cases h0 : n = 0
  · subst h0
    have hb : inB 0 0 22 = true := rfl
    clear h
    go_enter Try.func18, Try.ntmps18
    go_wp2_with (first | (go_at_call 40; refine (residue_any _ _).mono ?_; rintro e w' ⟨rfl, rfl⟩))
    go_ret2
    exact ⟨rfl, rfl⟩
  · have hb : inB n 0 22 = false := by
      cases h2 : inB n 0 22
      · rfl
      · rw [inB_iff] at h2; rw [inB_true (by omega) (by omega)] at h; simp at h
    clear h
    go_enter Try.func18, Try.ntmps18
    go_wp2_with (first | (go_at_call 40; refine (residue_any _ _).mono ?_; rintro e w' ⟨rfl, rfl⟩))
    go_ret2
    exact ⟨rfl, rfl⟩

theorem specResidueTurned_no (n : Int) (w : World) (h : inB n 1 22 = false) :
    Calls Try.prog 17 #[.int .i64 n] w fun e w' => e = .returned (.tuple #[.int .i64 0, .bool false]) ∧ w = w' := by
  by_cases h0 : n = 0
  · subst h0
    have hb : inB 0 0 22 = true := rfl
    clear h
    go_enter Try.func17, Try.ntmps17
    go_wp2_with (first | (go_at_call 38; refine (l8Is_any _ _).mono ?_; rintro e w' ⟨rfl, rfl⟩))
    go_ret2
    exact ⟨rfl, rfl⟩
  · have hb : inB n 0 22 = false := by
      cases h2 : inB n 0 22
      · rfl
      · rw [inB_iff] at h2; rw [inB_true (by omega) (by omega)] at h; simp at h
    clear h
    go_enter Try.func17, Try.ntmps17
    go_wp2_with (first | (go_at_call 38; refine (l8Is_any _ _).mono ?_; rintro e w' ⟨rfl, rfl⟩))
    go_ret2
    exact ⟨rfl, rfl⟩

theorem implResidueTurned_ok (n : Int) (w : World) (h0 : 1 ≤ n) (h1 : n ≤ 22) :
    Calls Try.prog 18 #[.int .i64 n] w fun e w' => e = .returned (.tuple #[.int .i64 (invN n.toNat : Nat), .bool true]) ∧ w = w' := by
  have hb : inB n 0 22 = true := inB_true (by omega) (by omega)
  go_enter Try.func18, Try.ntmps18
  go_wp2_with (first | (go_at_call 40; refine (residue_any _ _).mono ?_; rintro e w' ⟨rfl, rfl⟩) | (go_at_call 43; refine (over_any _ _ (by omega) (by omega)).mono ?_; rintro e w' ⟨rfl, rfl⟩))
  go_ret2
  exact ⟨rfl, rfl⟩

theorem specResidueTurned_ok (n : Int) (w : World) (h0 : 1 ≤ n) (h1 : n ≤ 22) :
    Calls Try.prog 17 #[.int .i64 n] w fun e w' => e = .returned (.tuple #[.int .i64 (invN n.toNat : Nat), .bool true]) ∧ w = w' := by
  have hb : inB n 0 22 = true := inB_true (by omega) (by omega)
  go_enter Try.func17, Try.ntmps17
  go_wp2_with (first | (go_at_call 38; refine (l8Is_any _ _).mono ?_; rintro e w' ⟨rfl, rfl⟩) | (go_at_call 42; refine (l8Turned_any _ _ (by omega) (by omega)).mono ?_; rintro e w' ⟨rfl, rfl⟩))
  go_ret2
  exact ⟨rfl, rfl⟩

theorem genTo_hit {i k : Nat} (h : sq (((k : Int) - (i : Int)) % 23) = true) : genTo i (k + 1) = genTo i k ||| 2 ^ k := by simp [genTo, h]
theorem genTo_miss {i k : Nat} (h : sq (((k : Int) - (i : Int)) % 23) = false) : genTo i (k + 1) = genTo i k := by simp [genTo, h]
theorem genATo_hit {i k : Nat} (h : sq (((k : Int) - (i : Int)) % 23) = true) : genATo i (k + 1) = genATo i k + 2 ^ k := by simp [genATo, h]
theorem genATo_miss {i k : Nat} (h : sq (((k : Int) - (i : Int)) % 23) = false) : genATo i (k + 1) = genATo i k := by simp [genATo, h]

theorem or_step {m k : Nat} (hm : m ≤ 16777215) (hk : k ≤ 62) : bits .or .i64 (m : Int) (wrap64 (2 ^ k)) = ((m ||| 2 ^ k : Nat) : Int) := by
  rw [wrap64_pow k hk]
  have : (2 : Nat) ^ k ≤ 2 ^ 62 := Nat.pow_le_pow_right (by omega) hk
  exact i64_or _ _ (by omega) (by omega)

theorem add_step {m k : Nat} (hm : m ≤ 16777215) (hk : k ≤ 61) : wrap64 ((m : Int) + wrap64 (2 ^ k)) = ((m + 2 ^ k : Nat) : Int) := by
  rw [wrap64_pow k (by omega)]
  have : (2 : Nat) ^ k ≤ 2 ^ 61 := Nat.pow_le_pow_right (by omega) hk
  rw [← Int.natCast_add]
  exact wrap64_nat _ (by omega)

theorem generator_any (i : Int) (w : World) (h0 : 0 ≤ i) (h1 : i ≤ 22) :
    Calls Try.prog 47 #[.int .i64 i] w fun e w' => e = .returned (.int .i64 (gen i.toNat : Nat)) ∧ w = w' := by
  obtain ⟨i, rfl⟩ := Int.eq_ofNat_of_zero_le h0
  rw [Int.toNat_natCast]
  go_enter Try.func47, Try.ntmps47
  go_wp2
  go_loop [3, 5] (fun s x => ∃ k : Nat, k ≤ 23 ∧ x = .int .i64 (k : Int) ∧ s = .int .i64 (genTo i k : Nat))
    (fun _ x => (24 - (intOf x).toNat))
  case atStart => exact ⟨0, by omega, rfl, rfl⟩
  case round =>
    obtain ⟨k, hk, rfl, rfl⟩ := hrel
    have hm := genTo_le i (by omega) k (by omega)
    go_wp2_with (go_at_call 41; refine (square_any _ _).mono ?_; rintro e w' ⟨rfl, rfl⟩)
    · have hs : sq (((k : Int) - (i : Int)) % 23) = true := by assumption
      go_round
      case rel => exact ⟨k + 1, by omega, by go_num, by rw [or_step hm (by omega), genTo_hit hs]⟩
      case measure => simp [intOf]; omega
    · have hs : sq (((k : Int) - (i : Int)) % 23) = false := by assumption
      go_round
      case rel => exact ⟨k + 1, by omega, by go_num, by rw [genTo_miss hs]⟩
      case measure => simp [intOf]; omega
    · go_ret
      obtain rfl : k = 23 := by omega
      exact ⟨rfl, rfl⟩

theorem l8Word_any (i : Int) (w : World) (h0 : 0 ≤ i) (h1 : i ≤ 22) :
    Calls Try.prog 46 #[.int .i64 i] w fun e w' => e = .returned (.int .i64 (gen i.toNat : Nat)) ∧ w = w' := by
  obtain ⟨i, rfl⟩ := Int.eq_ofNat_of_zero_le h0
  rw [Int.toNat_natCast]
  have hfin : ((gen i : Nat) : Int) = (genATo i 23 : Nat) := by rw [genATo_eq i (by omega) 23 (by omega)]; rfl
  rw [hfin]
  clear hfin
  go_enter Try.func46, Try.ntmps46
  go_wp2
  go_loop [3, 4] (fun s x => ∃ k : Nat, k ≤ 23 ∧ x = .int .i64 (k : Int) ∧ s = .int .i64 (genATo i k : Nat))
    (fun _ x => (24 - (intOf x).toNat))
  case atStart => exact ⟨0, by omega, rfl, rfl⟩
  case round =>
    obtain ⟨k, hk, rfl, rfl⟩ := hrel
    have hm := genTo_le i (by omega) k (by omega)
    rw [← genATo_eq i (by omega) k (by omega)] at hm
    go_wp2_with (first | (go_at_call 64; refine (l8Mod_any _ _ (by omega) (by omega)).mono ?_; rintro e w' ⟨rfl, rfl⟩) | (go_at_call 39; refine (l8Square_any _ _).mono ?_; rintro e w' ⟨rfl, rfl⟩))
    · have hs : sq (((k : Int) - (i : Int)) % 23) = true := by assumption
      go_round
      case rel => exact ⟨k + 1, by omega, by go_num, by rw [add_step hm (by omega), genATo_hit hs]⟩
      case measure => simp [intOf]; omega
    · have hs : sq (((k : Int) - (i : Int)) % 23) = false := by assumption
      go_round
      case rel => exact ⟨k + 1, by omega, by go_num, by rw [genATo_miss hs]⟩
      case measure => simp [intOf]; omega
    · go_ret
      obtain rfl : k = 23 := by omega
      exact ⟨rfl, rfl⟩

theorem implLineWord_no (i : Int) (w : World) (h : inB i 0 22 = false) :
    Calls Try.prog 21 #[.int .i64 i] w fun e w' => e = .returned (.tuple #[.int .i64 0, .bool false]) ∧ w = w' := by
  go_enter Try.func21, Try.ntmps21
  go_wp2_with (first | (go_at_call 40; refine (residue_any _ _).mono ?_; rintro e w' ⟨rfl, rfl⟩))
  go_ret2
  exact ⟨rfl, rfl⟩

theorem specLineWord_no (i : Int) (w : World) (h : inB i 0 22 = false) :
    Calls Try.prog 20 #[.int .i64 i] w fun e w' => e = .returned (.tuple #[.int .i64 0, .bool false]) ∧ w = w' := by
  go_enter Try.func20, Try.ntmps20
  go_wp2_with (first | (go_at_call 38; refine (l8Is_any _ _).mono ?_; rintro e w' ⟨rfl, rfl⟩))
  go_ret2
  exact ⟨rfl, rfl⟩

theorem implLineWord_ok (i : Int) (w : World) (h0 : 0 ≤ i) (h1 : i ≤ 22) :
    Calls Try.prog 21 #[.int .i64 i] w fun e w' => e = .returned (.tuple #[.int .i64 (gen i.toNat : Nat), .bool true]) ∧ w = w' := by
  have hb : inB i 0 22 = true := inB_true (by omega) (by omega)
  go_enter Try.func21, Try.ntmps21
  go_wp2_with (first | (go_at_call 40; refine (residue_any _ _).mono ?_; rintro e w' ⟨rfl, rfl⟩) | (go_at_call 47; refine (generator_any _ _ (by omega) (by omega)).mono ?_; rintro e w' ⟨rfl, rfl⟩))
  go_ret2
  exact ⟨rfl, rfl⟩

theorem specLineWord_ok (i : Int) (w : World) (h0 : 0 ≤ i) (h1 : i ≤ 22) :
    Calls Try.prog 20 #[.int .i64 i] w fun e w' => e = .returned (.tuple #[.int .i64 (gen i.toNat : Nat), .bool true]) ∧ w = w' := by
  have hb : inB i 0 22 = true := inB_true (by omega) (by omega)
  go_enter Try.func20, Try.ntmps20
  go_wp2_with (first | (go_at_call 38; refine (l8Is_any _ _).mono ?_; rintro e w' ⟨rfl, rfl⟩) | (go_at_call 46; refine (l8Word_any _ _ (by omega) (by omega)).mono ?_; rintro e w' ⟨rfl, rfl⟩))
  go_ret2
  exact ⟨rfl, rfl⟩

end Go.Proofs.Ytdniiohbalohlaa
