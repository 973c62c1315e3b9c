/- Contracts of PermTimes, PermTurned and PermFixed. -/
import Derived.Test.YteedbejlbjfkgaaWMw
import Derived.Test.YteedbejlbjfkgaaPt
import Derived.Test.YteedbejlbjfkgaaMk
set_option linter.unusedVariables false
namespace Go.Proofs.Yteedbejlbjfkgaa
open Go.RowKit Res

theorem tmL_perm {p q : List Int} (hp : permOk p = true) (hq : permOk q = true) : permOk (tmL p q) = true :=
  (permOk_iff _).2 ⟨tmTo_length _ _ _, tmL_ok ((permOk_iff p).1 hp).2 ((permOk_iff q).1 hq).2⟩
theorem tnL_perm {p : List Int} (hp : permOk p = true) : permOk (tnL p) = true :=
  (permOk_iff _).2 ⟨tnTo_length _ _, tnL_ok ((permOk_iff p).1 hp).1 ((permOk_iff p).1 hp).2⟩

theorem implPermFixed_no (a : Option Addr) (cap : Nat) (p : List Int) (w : World) (hl : p.length ≤ 9223372036854775807) (hr : Reads .i64 w a p) (h : permOk p = false) :
    Calls Try.prog 16 #[.slice a p.length cap] w fun e w' => e = .returned (.tuple #[.int .i64 0, .bool false]) ∧ w = w' := by
  have C1 := Lib.hid (implPermValid_any a cap p w hl hr)
  rw [h] at C1
  clear h
  go_enter Try.func16, Try.ntmps16
  go_wp2_with fail
  refine (C1.out).mono ?_
  rintro e w' ⟨rfl, rfl⟩
  go_wp2_with fail
  go_ret2
  exact ⟨rfl, rfl⟩
theorem implPermFixed_ok (a : Option Addr) (cap : Nat) (p : List Int) (w : World) (hr : Reads .i64 w a p) (h : permOk p = true) :
    Calls Try.prog 16 #[.slice a p.length cap] w fun e w' => e = .returned (.tuple #[.int .i64 (fxW p : Nat), .bool true]) ∧ w = w' := by
  obtain ⟨hl, hok⟩ := permOk_ok h
  have C1 := Lib.hid (implPermValid_any a cap p w (by omega) hr)
  rw [h, hl] at C1
  rw [hl]
  have HL := Lib.hid hl
  have HOK := Lib.hid hok
  clear h hl hok
  go_enter Try.func16, Try.ntmps16
  go_wp2_with fail
  refine (C1.out).mono ?_
  rintro e w' ⟨rfl, rfl⟩
  go_wp2_with fail
  go_loop [4, 12] (fun s x => ∃ k : Nat, k ≤ 24 ∧ x = .int .i64 (k : Int) ∧ s = .int .i64 ((fxTo p k : Nat) : Int))
    (fun _ x => (24 - (intOf x).toNat))
  case atStart => exact ⟨0, by omega, rfl, rfl⟩
  case round =>
    obtain ⟨k, hk, rfl, rfl⟩ := hrel
    by_cases hlt : k < 24
    · have hki : (k : Int) < 24 := by omega
      obtain ⟨b, off, ha, hb, hc⟩ := hr k (by rw [HL.out]; exact hlt)
      subst ha
      have hml : fxTo p k < 16777216 := Nat.lt_of_lt_of_le (fxTo_lt p k) (Nat.pow_le_pow_right (n := 2) (by omega) hk)
      rw [goes_get HOK.out hlt] at hc
      have hbit : (fxTo p k).testBit k = false := by rw [fxTo_bit]; simp
      by_cases hg : goes p k = k
      · have D := Lib.hid (fxTo_hit hg)
        have HOR := Lib.hid (or_step (m := fxTo p k) (k := k) (by omega) (by omega))
        have e0 : ((k : Int) == ((goes p k : Nat) : Int)) = true := by rw [hg]; exact beq_self_eq_true _
        have e1 : (((goes p k : Nat) : Int) == (k : Int)) = true := by rw [hg]; exact beq_self_eq_true _
        clear hg hbit
        generalize goes p k = g at *
        go_wp2_with fail
        go_round
        case rel => exact ⟨k + 1, by omega, by go_num, by rw [D.out]; exact congrArg _ HOR.out⟩
        case measure => simp [intOf]; omega
      · have D := Lib.hid (fxTo_miss hg)
        have e0 : ((k : Int) == ((goes p k : Nat) : Int)) = false := by rw [beq_eq_false_iff_ne]; omega
        have e1 : (((goes p k : Nat) : Int) == (k : Int)) = false := by rw [beq_eq_false_iff_ne]; omega
        clear hg hbit
        generalize goes p k = g at *
        go_wp2_with fail
        go_round
        case rel => exact ⟨k + 1, by omega, by go_num, by rw [D.out]⟩
        case measure => simp [intOf]; omega
    · obtain rfl : k = 24 := by omega
      go_wp2
      go_ret2
      exact ⟨rfl, rfl⟩
theorem specPermFixed_no (a : Option Addr) (cap : Nat) (p : List Int) (w : World) (hl : p.length ≤ 9223372036854775807) (hr : Reads .i64 w a p) (h : permOk p = false) :
    Calls Try.prog 17 #[.slice a p.length cap] w fun e w' => e = .returned (.tuple #[.int .i64 0, .bool false]) ∧ w = w' := by
  have C1 := Lib.hid (specPermValid_any a cap p w hl hr)
  rw [h] at C1
  clear h
  go_enter Try.func17, Try.ntmps17
  go_wp2_with fail
  refine (C1.out).mono ?_
  rintro e w' ⟨rfl, rfl⟩
  go_wp2_with fail
  go_ret2
  exact ⟨rfl, rfl⟩
theorem specPermFixed_ok (a : Option Addr) (cap : Nat) (p : List Int) (w : World) (hr : Reads .i64 w a p) (h : permOk p = true) :
    Calls Try.prog 17 #[.slice a p.length cap] w fun e w' => e = .returned (.tuple #[.int .i64 (fxW p : Nat), .bool true]) ∧ w = w' := by
  obtain ⟨hl, hok⟩ := permOk_ok h
  have C1 := Lib.hid (specPermValid_any a cap p w (by omega) hr)
  rw [h, hl] at C1
  rw [hl]
  have HL := Lib.hid hl
  have HOK := Lib.hid hok
  clear h hl hok
  go_enter Try.func17, Try.ntmps17
  go_wp2_with fail
  refine (C1.out).mono ?_
  rintro e w' ⟨rfl, rfl⟩
  go_wp2_with fail
  go_loop [4, 5] (fun s x => ∃ k : Nat, k ≤ 24 ∧ x = .int .i64 (k : Int) ∧ s = .int .i64 ((fxTo p k : Nat) : Int))
    (fun _ x => (24 - (intOf x).toNat))
  case atStart => exact ⟨0, by omega, rfl, rfl⟩
  case round =>
    obtain ⟨k, hk, rfl, rfl⟩ := hrel
    by_cases hlt : k < 24
    · have hki : (k : Int) < 24 := by omega
      obtain ⟨b, off, ha, hb, hc⟩ := hr k (by rw [HL.out]; exact hlt)
      subst ha
      have hml : fxTo p k < 16777216 := Nat.lt_of_lt_of_le (fxTo_lt p k) (Nat.pow_le_pow_right (n := 2) (by omega) hk)
      rw [goes_get HOK.out hlt] at hc
      have hbit : (fxTo p k).testBit k = false := by rw [fxTo_bit]; simp
      by_cases hg : goes p k = k
      · have D := Lib.hid (fxTo_hit hg)
        have HOR := Lib.hid ((add_step (m := fxTo p k) (k := k) (by omega) (by omega)).trans (congrArg (Nat.cast : Nat → Int) (add_bit hbit)))
        have e0 : ((k : Int) == ((goes p k : Nat) : Int)) = true := by rw [hg]; exact beq_self_eq_true _
        have e1 : (((goes p k : Nat) : Int) == (k : Int)) = true := by rw [hg]; exact beq_self_eq_true _
        clear hg hbit
        generalize goes p k = g at *
        go_wp2_with fail
        go_round
        case rel => exact ⟨k + 1, by omega, by go_num, by rw [D.out]; exact congrArg _ HOR.out⟩
        case measure => simp [intOf]; omega
      · have D := Lib.hid (fxTo_miss hg)
        have e0 : ((k : Int) == ((goes p k : Nat) : Int)) = false := by rw [beq_eq_false_iff_ne]; omega
        have e1 : (((goes p k : Nat) : Int) == (k : Int)) = false := by rw [beq_eq_false_iff_ne]; omega
        clear hg hbit
        generalize goes p k = g at *
        go_wp2_with fail
        go_round
        case rel => exact ⟨k + 1, by omega, by go_num, by rw [D.out]⟩
        case measure => simp [intOf]; omega
    · obtain rfl : k = 24 := by omega
      go_wp2
      go_ret2
      exact ⟨rfl, rfl⟩

end Go.Proofs.Yteedbejlbjfkgaa
