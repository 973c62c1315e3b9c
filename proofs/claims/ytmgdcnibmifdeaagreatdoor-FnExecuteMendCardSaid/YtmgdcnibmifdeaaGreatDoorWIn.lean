/- Contracts of the two functions that ask whether a number lies between two others. -/
import Derived.Test.YtmgdcnibmifdeaaGreatDoorRd
import Derived.Test.YtmgdcnibmifdeaaGreatDoorRes
import Derived.Test.YtmgdcnibmifdeaaGreatDoorBit
import Derived.WalkKit
import Derived.WalkLawsBesides
import Derived.Lib.Hide
set_option linter.unusedVariables false
namespace Go.Proofs.YtmgdcnibmifdeaaGreatDoor
open Go.RowKit Res

theorem within_any (n lo hi : Int) (w : World) :
    Calls Tryz.prog 40 #[.int .i64 n, .int .i64 lo, .int .i64 hi] w fun e w' => e = .returned (.bool (inB n lo hi)) ∧ w = w' := by
  go_enter Tryz.func40, Tryz.ntmps40
  go_wp2
  all_goals
    go_ret
    exact ⟨ret_bool (by simp [inB]; omega), rfl⟩

theorem l6In_any (n lo hi : Int) (w : World) :
    Calls Tryz.prog 42 #[.int .i64 n, .int .i64 lo, .int .i64 hi] w fun e w' => e = .returned (.bool (inB n lo hi)) ∧ w = w' := by
  go_enter Tryz.func42, Tryz.ntmps42
  go_wp2
  all_goals
    go_ret
    exact ⟨ret_bool (by simp [inB]; omega), rfl⟩

theorem mul_bd {a b : Int} (m n : Int) (ha0 : 0 ≤ a) (ha : a ≤ m) (hb0 : 0 ≤ b) (hb : b ≤ n) : 0 ≤ a * b ∧ a * b ≤ m * n :=
  ⟨Int.mul_nonneg ha0 hb0, Int.mul_le_mul ha hb hb0 (by omega)⟩

theorem or_step {m k : Nat} (hm : m ≤ 16777215) (hk : k ≤ 62) : bits .or .i64 (m : Int) (wrap64 (2 ^ k)) = ((m ||| 2 ^ k : Nat) : Int) := by
  rw [wrap64_pow k hk]
  have : (2 : Nat) ^ k ≤ 2 ^ 62 := Nat.pow_le_pow_right (by omega) hk
  exact i64_or _ _ (by omega) (by omega)

theorem add_step {m k : Nat} (hm : m ≤ 16777215) (hk : k ≤ 61) : wrap64 ((m : Int) + wrap64 (2 ^ k)) = ((m + 2 ^ k : Nat) : Int) := by
  rw [wrap64_pow k (by omega)]
  have : (2 : Nat) ^ k ≤ 2 ^ 61 := Nat.pow_le_pow_right (by omega) hk
  rw [← Int.natCast_add]
  exact wrap64_nat _ (by omega)

end Go.Proofs.YtmgdcnibmifdeaaGreatDoor
