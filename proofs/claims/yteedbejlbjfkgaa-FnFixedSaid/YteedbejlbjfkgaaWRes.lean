/- Contracts of the functions on residues: what each returns; nothing in memory changes. -/
import Derived.Test.YteedbejlbjfkgaaWIn
set_option linter.unusedVariables false
namespace Go.Proofs.Yteedbejlbjfkgaa
open Go.RowKit Res

theorem residue_any (n : Int) (w : World) :
    Calls Try.prog 36 #[.int .i64 n] w fun e w' => e = .returned (.bool (inB n 0 22)) ∧ w = w' := by
  go_enter Try.func36, Try.ntmps36
  go_wp2_with (go_at_call 54; refine (within_any _ _ _ _).mono ?_; rintro e w' ⟨rfl, rfl⟩)
  go_ret
  exact ⟨rfl, rfl⟩

theorem square_any (n : Int) (w : World) :
    Calls Try.prog 63 #[.int .i64 n] w fun e w' => e = .returned (.bool (sq n)) ∧ w = w' := by
  go_enter Try.func63, Try.ntmps63
  go_wp2
  go_loop [3] (fun x => ∃ k : Nat, k ≤ 22 ∧ x = .int .i64 ((k : Int) + 1) ∧ ∀ j : Nat, j < k → ¬ (((j : Int) + 1) * ((j : Int) + 1)) % 23 = n)
    (fun x => (24 - (intOf x).toNat))
  case atStart => exact ⟨0, by omega, rfl, by omega⟩
  case round =>
    obtain ⟨k, hk, rfl, hn⟩ := hrel
    have hb := mul_bd 23 23 (a := (k : Int) + 1) (b := (k : Int) + 1) (by omega) (by omega) (by omega) (by omega)
    go_wp2
    · have h1 : (k : Int) + 1 < 23 := by assumption
      have h2 : (((k : Int) + 1) * ((k : Int) + 1) % 23 == n) = true := by assumption
      go_ret
      exact ⟨ret_bool (sq_of n k (by omega) (by simpa using h2)).symm, rfl⟩
    · have h1 : (k : Int) + 1 < 23 := by assumption
      have h2 : (((k : Int) + 1) * ((k : Int) + 1) % 23 == n) = false := by assumption
      go_round
      case rel =>
        refine ⟨k + 1, by omega, by go_num, fun j hj => ?_⟩
        by_cases h : j < k
        · exact hn j h
        · obtain rfl : j = k := by omega
          simpa using h2
      case measure => simp [intOf]; omega
    · have h1 : (23 : Int) ≤ (k : Int) + 1 := by assumption
      go_ret
      obtain rfl : k = 22 := by omega
      exact ⟨ret_bool (sq_not n hn).symm, rfl⟩


theorem l8Is_any (n : Int) (w : World) :
    Calls Try.prog 65 #[.int .i64 n] w fun e w' => e = .returned (.bool (inB n 0 22)) ∧ w = w' := by
  go_enter Try.func65, Try.ntmps65
  go_wp2_with (go_at_call 71; refine (l6In_any _ _ _ _).mono ?_; rintro e w' ⟨rfl, rfl⟩)
  go_ret
  exact ⟨rfl, rfl⟩

theorem l8Square_any (n : Int) (w : World) :
    Calls Try.prog 66 #[.int .i64 n] w fun e w' => e = .returned (.bool (sq n)) ∧ w = w' := by
  go_enter Try.func66, Try.ntmps66
  go_wp2
  go_loop [3] (fun x => ∃ k : Nat, k ≤ 22 ∧ x = .int .i64 ((k : Int) + 1) ∧ ∀ j : Nat, j < k → ¬ (((j : Int) + 1) * ((j : Int) + 1)) % 23 = n)
    (fun x => (24 - (intOf x).toNat))
  case atStart => exact ⟨0, by omega, rfl, by omega⟩
  case round =>
    obtain ⟨k, hk, rfl, hn⟩ := hrel
    have hb := mul_bd 23 23 (a := (k : Int) + 1) (b := (k : Int) + 1) (by omega) (by omega) (by omega) (by omega)
    go_wp2
    · have h1 : (k : Int) + 1 < 23 := by assumption
      have h2 : (((k : Int) + 1) * ((k : Int) + 1) % 23 == n) = true := by assumption
      go_ret
      exact ⟨ret_bool (sq_of n k (by omega) (by simpa using h2)).symm, rfl⟩
    · have h1 : (k : Int) + 1 < 23 := by assumption
      have h2 : (((k : Int) + 1) * ((k : Int) + 1) % 23 == n) = false := by assumption
      go_round
      case rel =>
        refine ⟨k + 1, by omega, by go_num, fun j hj => ?_⟩
        by_cases h : j < k
        · exact hn j h
        · obtain rfl : j = k := by omega
          simpa using h2
      case measure => simp [intOf]; omega
    · have h1 : (23 : Int) ≤ (k : Int) + 1 := by assumption
      go_ret
      obtain rfl : k = 22 := by omega
      exact ⟨ret_bool (sq_not n hn).symm, rfl⟩

theorem over_any (n : Int) (w : World) (h0 : 1 ≤ n) (h1 : n ≤ 22) :
    Calls Try.prog 64 #[.int .i64 n] w fun e w' => e = .returned (.int .i64 (invN n.toNat : Nat)) ∧ w = w' := by
  obtain ⟨n, rfl⟩ := Int.eq_ofNat_of_zero_le (show 0 ≤ n by omega)
  rw [Int.toNat_natCast]
  have hs := invN_spec (n := n) (by omega) (by omega)
  have H := Lib.hid hs.1
  obtain ⟨-, hs1, hs2⟩ := hs
  go_enter Try.func64, Try.ntmps64
  go_wp2
  go_loop [3] (fun x => ∃ k : Nat, k < invN n ∧ x = .int .i64 ((k : Int) + 1))
    (fun x => (24 - (intOf x).toNat))
  case atStart => exact ⟨0, by omega, rfl⟩
  case round =>
    obtain ⟨k, hk, rfl⟩ := hrel
    have hb := mul_bd 22 22 (a := (n : Int)) (b := (k : Int) + 1) (by omega) (by omega) (by omega) (by omega)
    by_cases hx : n * (k + 1) % 23 = 1
    · have he : ((n : Int) * ((k : Int) + 1) % 23 != 1) = false := by
        have : (n : Int) * ((k : Int) + 1) % 23 = 1 := by exact_mod_cast hx
        simp [this]
      have hk2 := Lib.hid (invN_eq (n := n) (x := k + 1) (by omega) (by omega) (by omega) (by omega) hx)
      clear hx
      go_wp2
      go_ret
      exact ⟨ret_int (by rw [hk2.out]; rfl), rfl⟩
    · have he : ((n : Int) * ((k : Int) + 1) % 23 != 1) = true := by
        have : ¬ (n : Int) * ((k : Int) + 1) % 23 = 1 := fun h => hx (by exact_mod_cast h)
        simp [this]
      have hk2 : ¬ invN n = k + 1 := fun h => by have := H.out; rw [h] at this; exact hx this
      clear hx
      go_wp2
      go_round
      case rel => exact ⟨k + 1, by omega, by go_num⟩
      case measure => simp [intOf]; omega


theorem l8Turned_any (n : Int) (w : World) (h0 : 1 ≤ n) (h1 : n ≤ 22) :
    Calls Try.prog 62 #[.int .i64 n] w fun e w' => e = .returned (.int .i64 (invN n.toNat : Nat)) ∧ w = w' := by
  obtain ⟨n, rfl⟩ := Int.eq_ofNat_of_zero_le (show 0 ≤ n by omega)
  rw [Int.toNat_natCast]
  have hs := invN_spec (n := n) (by omega) (by omega)
  have H := Lib.hid hs.1
  obtain ⟨-, hs1, hs2⟩ := hs
  go_enter Try.func62, Try.ntmps62
  go_wp2
  go_loop [3] (fun x => ∃ k : Nat, k < invN n ∧ x = .int .i64 ((k : Int) + 1))
    (fun x => (24 - (intOf x).toNat))
  case atStart => exact ⟨0, by omega, rfl⟩
  case round =>
    obtain ⟨k, hk, rfl⟩ := hrel
    have hb := mul_bd 22 22 (a := (k : Int) + 1) (b := (n : Int)) (by omega) (by omega) (by omega) (by omega)
    by_cases hx : n * (k + 1) % 23 = 1
    · have he : (((k : Int) + 1) * (n : Int) % 23 == 1) = true := by
        have : ((k : Int) + 1) * (n : Int) % 23 = 1 := by rw [Int.mul_comm]; exact_mod_cast hx
        simp [this]
      have hk2 := Lib.hid (invN_eq (n := n) (x := k + 1) (by omega) (by omega) (by omega) (by omega) hx)
      clear hx
      go_wp2
      go_ret
      exact ⟨ret_int (by rw [hk2.out]; rfl), rfl⟩
    · have he : (((k : Int) + 1) * (n : Int) % 23 == 1) = false := by
        have : ¬ ((k : Int) + 1) * (n : Int) % 23 = 1 := fun h => hx (by rw [Int.mul_comm] at h; exact_mod_cast h)
        simp [this]
      have hk2 : ¬ invN n = k + 1 := fun h => by have := H.out; rw [h] at this; exact hx this
      clear hx
      go_wp2
      go_round
      case rel => exact ⟨k + 1, by omega, by go_num⟩
      case measure => simp [intOf]; omega

theorem l8Mod_any (n : Int) (w : World) (h0 : -1000000 ≤ n) (h1 : n ≤ 1000000) :
    Calls Try.prog 61 #[.int .i64 n] w fun e w' => e = .returned (.int .i64 (n % 23)) ∧ w = w' := by
  have ht := tmod_cases n 23 (by omega)
  have hb : -22 ≤ n.tmod 23 ∧ n.tmod 23 ≤ 22 := by omega
  have hm : (n.tmod 23 + 23) % 23 = n % 23 := by omega
  clear ht
  have H := Lib.hid hm
  clear hm
  go_enter Try.func61, Try.ntmps61
  go_wp2
  go_ret
  exact ⟨ret_int (by first | exact H.out | (have := H.out; omega)), rfl⟩

theorem genTo_hit {i k : Nat} (h : sq (((k : Int) - (i : Int)) % 23) = true) : genTo i (k + 1) = genTo i k ||| 2 ^ k := by simp [genTo, h]
theorem genTo_miss {i k : Nat} (h : sq (((k : Int) - (i : Int)) % 23) = false) : genTo i (k + 1) = genTo i k := by simp [genTo, h]
theorem genATo_hit {i k : Nat} (h : sq (((k : Int) - (i : Int)) % 23) = true) : genATo i (k + 1) = genATo i k + 2 ^ k := by simp [genATo, h]
theorem genATo_miss {i k : Nat} (h : sq (((k : Int) - (i : Int)) % 23) = false) : genATo i (k + 1) = genATo i k := by simp [genATo, h]

theorem generator_any (i : Int) (w : World) (h0 : 0 ≤ i) (h1 : i ≤ 22) :
    Calls Try.prog 37 #[.int .i64 i] w fun e w' => e = .returned (.int .i64 (gen i.toNat : Nat)) ∧ w = w' := by
  obtain ⟨i, rfl⟩ := Int.eq_ofNat_of_zero_le h0
  rw [Int.toNat_natCast]
  go_enter Try.func37, Try.ntmps37
  go_wp2
  go_loop [3, 5] (fun s x => ∃ k : Nat, k ≤ 23 ∧ x = .int .i64 (k : Int) ∧ s = .int .i64 (genTo i k : Nat))
    (fun _ x => (24 - (intOf x).toNat))
  case atStart => exact ⟨0, by omega, rfl, rfl⟩
  case round =>
    obtain ⟨k, hk, rfl, rfl⟩ := hrel
    have hm := genTo_le i (by omega) k (by omega)
    go_wp2_with (go_at_call 63; refine (square_any _ _).mono ?_; rintro e w' ⟨rfl, rfl⟩)
    · have hs : sq (((k : Int) - (i : Int)) % 23) = true := by assumption
      go_round
      case rel => exact ⟨k + 1, by omega, by go_num, by rw [or_step hm (by omega), genTo_hit hs]⟩
      case measure => simp [intOf]; omega
    · have hs : sq (((k : Int) - (i : Int)) % 23) = false := by assumption
      go_round
      case rel => exact ⟨k + 1, by omega, by go_num, by rw [genTo_miss hs]⟩
      case measure => simp [intOf]; omega
    · go_ret
      obtain rfl : k = 23 := by omega
      exact ⟨rfl, rfl⟩

theorem implLineWord_no (i : Int) (w : World) (h : inB i 0 22 = false) :
    Calls Try.prog 12 #[.int .i64 i] w fun e w' => e = .returned (.tuple #[.int .i64 0, .bool false]) ∧ w = w' := by
  go_enter Try.func12, Try.ntmps12
  go_wp2_with (first | (go_at_call 36; refine (residue_any _ _).mono ?_; rintro e w' ⟨rfl, rfl⟩))
  go_ret2
  exact ⟨rfl, rfl⟩

theorem implLineWord_ok (i : Int) (w : World) (h0 : 0 ≤ i) (h1 : i ≤ 22) :
    Calls Try.prog 12 #[.int .i64 i] w fun e w' => e = .returned (.tuple #[.int .i64 (gen i.toNat : Nat), .bool true]) ∧ w = w' := by
  have hb : inB i 0 22 = true := inB_true (by omega) (by omega)
  go_enter Try.func12, Try.ntmps12
  go_wp2_with (first | (go_at_call 36; refine (residue_any _ _).mono ?_; rintro e w' ⟨rfl, rfl⟩) | (go_at_call 37; refine (generator_any _ _ (by omega) (by omega)).mono ?_; rintro e w' ⟨rfl, rfl⟩))
  go_ret2
  exact ⟨rfl, rfl⟩

end Go.Proofs.Yteedbejlbjfkgaa
