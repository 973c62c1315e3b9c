/- Contracts of the line's functions. -/
import Derived.Test.YteedbejlbjfkgaaGreatWWd
import Derived.Test.YteedbejlbjfkgaaGreatWRes
import Derived.Test.YteedbejlbjfkgaaGreatPl
set_option linter.unusedVariables false
namespace Go.Proofs.YteedbejlbjfkgaaGreat
open Go.RowKit Res


theorem lmTop_int {a b x : Nat} (h : x ≠ 23) : ((a : Int) * (x : Int) + (b : Int)) % 23 = ((lmTop a b x : Nat) : Int) := by
  rw [lmTop_near h]; push_cast; rfl

theorem l8Given_any (a b c d : Int) (w : World) :
    Calls Tryz.prog 58 #[.int .i64 a, .int .i64 b, .int .i64 c, .int .i64 d] w fun e w' => e = .returned (.bool (mOk a b c d)) ∧ w = w' := by
  unfold mOk
  cases h1 : inB a 0 22
  · go_enter Tryz.func58, Tryz.ntmps58
    go_wp2_with (go_at_call 76; refine (l8Is_any _ _).mono ?_; rintro e w' ⟨rfl, rfl⟩)
    go_ret
    exact ⟨rfl, rfl⟩
  cases h2 : inB b 0 22
  · go_enter Tryz.func58, Tryz.ntmps58
    go_wp2_with (go_at_call 76; refine (l8Is_any _ _).mono ?_; rintro e w' ⟨rfl, rfl⟩)
    go_ret
    exact ⟨rfl, rfl⟩
  cases h3 : inB c 0 22
  · go_enter Tryz.func58, Tryz.ntmps58
    go_wp2_with (go_at_call 76; refine (l8Is_any _ _).mono ?_; rintro e w' ⟨rfl, rfl⟩)
    go_ret
    exact ⟨rfl, rfl⟩
  cases h4 : inB d 0 22
  · go_enter Tryz.func58, Tryz.ntmps58
    go_wp2_with (go_at_call 76; refine (l8Is_any _ _).mono ?_; rintro e w' ⟨rfl, rfl⟩)
    go_ret
    exact ⟨rfl, rfl⟩
  have g1 := inB_iff.1 h1
  have g2 := inB_iff.1 h2
  have g3 := inB_iff.1 h3
  have g4 := inB_iff.1 h4
  have p1 := mul_bd 22 22 g1.1 g1.2 g4.1 g4.2
  have p2 := mul_bd 22 22 g2.1 g2.2 g3.1 g3.2
  go_enter Tryz.func58, Tryz.ntmps58
  go_wp2_with (first | (go_at_call 76; refine (l8Is_any _ _).mono ?_; rintro e w' ⟨rfl, rfl⟩) | (go_at_call 78; refine (l8Mod_any _ _ (by omega) (by omega)).mono ?_; rintro e w' ⟨rfl, rfl⟩) | (go_at_call 77; refine (l8Square_any _ _).mono ?_; rintro e w' ⟨rfl, rfl⟩))
  all_goals
    go_ret
    exact ⟨ret_bool (by simp), rfl⟩

theorem l8Move_any (a b c d x : Int) (w : World) (a0 : 0 ≤ a) (a1 : a ≤ 22) (b0 : 0 ≤ b) (b1 : b ≤ 22) (c0 : 0 ≤ c) (c1 : c ≤ 22) (d0 : 0 ≤ d) (d1 : d ≤ 22) (x0 : 0 ≤ x) (x1 : x ≤ 23) :
    Calls Tryz.prog 59 #[.int .i64 a, .int .i64 b, .int .i64 c, .int .i64 d, .int .i64 x] w fun e w' =>
      e = .returned (.int .i64 (lm a.toNat b.toNat c.toNat d.toNat x.toNat : Nat)) ∧ w = w' := by
  obtain ⟨a, rfl⟩ := Int.eq_ofNat_of_zero_le a0
  obtain ⟨b, rfl⟩ := Int.eq_ofNat_of_zero_le b0
  obtain ⟨c, rfl⟩ := Int.eq_ofNat_of_zero_le c0
  obtain ⟨d, rfl⟩ := Int.eq_ofNat_of_zero_le d0
  obtain ⟨x, rfl⟩ := Int.eq_ofNat_of_zero_le x0
  simp only [Int.toNat_natCast]
  have ht := lmTop_le (a := a) (b := b) (x := x) (by omega)
  have hu := lmTop_le (a := c) (b := d) (x := x) (by omega)
  have p1 := mul_bd 22 23 a0 a1 x0 x1
  have p2 := mul_bd 22 23 c0 c1 x0 x1
  by_cases hx : x = 23
  · have hx2 : ((x : Int) == 23) = true := by rw [hx]; rfl
    rw [hx, lmTop_far] at ht
    rw [hx, lmTop_far] at hu
    have hl : lm a b c d x = if c = 0 then 23 else a * invN c % 23 := by unfold lm; rw [hx, lmTop_far, lmTop_far]
    by_cases h0 : c = 0
    · rw [if_pos h0] at hl
      rw [hl]
      have hz : ((c : Int) == 0) = true := by rw [h0]; rfl
      clear hl h0 hx
      go_enter Tryz.func59, Tryz.ntmps59
      go_wp2_with (go_at_call 78; refine (l8Mod_any _ _ (by omega) (by omega)).mono ?_; rintro e w' ⟨rfl, rfl⟩)
      go_ret
      exact ⟨rfl, rfl⟩
    · rw [if_neg h0] at hl
      rw [hl]
      have hz : ((c : Int) == 0) = false := by rw [beq_eq_false_iff_ne]; omega
      have hi := invN_spec (n := c) (by omega) (by omega)
      have p3 := mul_bd 22 22 (a := (a : Int)) (b := ((invN c : Nat) : Int)) (by omega) (by omega) (by omega) (by omega)
      have hi1 := hi.2
      clear hl hx hi
      go_enter Tryz.func59, Tryz.ntmps59
      go_wp2_with (first | (go_at_call 78; refine (l8Mod_any _ _ (by omega) (by omega)).mono ?_; rintro e w' ⟨rfl, rfl⟩) | (go_at_call 79; refine (l8Turned_any _ _ (by omega) (by omega)).mono ?_; rintro e w' ⟨rfl, rfl⟩))
      go_ret
      exact ⟨ret_int (by push_cast; rfl), rfl⟩
  · have hx2 : ((x : Int) == 23) = false := by rw [beq_eq_false_iff_ne]; omega
    have hl : lm a b c d x = if lmTop c d x = 0 then 23 else lmTop a b x * invN (lmTop c d x) % 23 := rfl
    have e1 := lmTop_int (a := a) (b := b) hx
    have e2 := lmTop_int (a := c) (b := d) hx
    generalize lmTop a b x = t at *
    generalize lmTop c d x = u at *
    by_cases h0 : u = 0
    · rw [if_pos h0] at hl
      rw [hl]
      have hz : ((u : Int) == 0) = true := by rw [h0]; rfl
      clear hl h0 hx
      go_enter Tryz.func59, Tryz.ntmps59
      go_wp2_with (go_at_call 78; refine (l8Mod_any _ _ (by omega) (by omega)).mono ?_; rintro e w' ⟨rfl, rfl⟩)
      go_ret
      exact ⟨rfl, rfl⟩
    · rw [if_neg h0] at hl
      rw [hl]
      have hz : ((u : Int) == 0) = false := by rw [beq_eq_false_iff_ne]; omega
      have hi := invN_spec (n := u) (by omega) (by omega)
      have p3 := mul_bd 22 22 (a := (t : Int)) (b := ((invN u : Nat) : Int)) (by omega) (by omega) (by omega) (by omega)
      have hi1 := hi.2
      clear hl hx hi
      go_enter Tryz.func59, Tryz.ntmps59
      go_wp2_with (first | (go_at_call 78; refine (l8Mod_any _ _ (by omega) (by omega)).mono ?_; rintro e w' ⟨rfl, rfl⟩) | (go_at_call 79; refine (l8Turned_any _ _ (by omega) (by omega)).mono ?_; rintro e w' ⟨rfl, rfl⟩))
      go_ret
      exact ⟨ret_int (by push_cast; rfl), rfl⟩

end Go.Proofs.YteedbejlbjfkgaaGreat
