/- The contract of the reference's table of columns. -/
import Derived.Test.YtmgdcnibmifdeaaGreatDoorRd
import Derived.Test.YtmgdcnibmifdeaaGreatDoorCd
set_option linter.unusedVariables false
namespace Go.Proofs.YtmgdcnibmifdeaaGreatDoor
open Go.RowKit Res

set_option maxHeartbeats 2000000 in
theorem l3Fill_any (s p f : Int) (w : World) (s0 : 0 ≤ s) (s1 : s ≤ 3) (p0 : 0 ≤ p) (p1 : p ≤ 1) (f0 : 0 ≤ f) (f1 : f ≤ 1) :
    Calls Tryz.prog 74 #[.int .i64 s, .int .i64 p, .int .i64 f] w fun e w' => e = .returned (.int .i64 (fill s.toNat p.toNat f.toNat : Nat)) ∧ Below w.heap.size w w' := by
  have hs : s = 0 ∨ s = 1 ∨ s = 2 ∨ s = 3 := by omega
  have hp : p = 0 ∨ p = 1 := by omega
  have hf : f = 0 ∨ f = 1 := by omega
  clear s0 s1 p0 p1 f0 f1
  rcases hs with rfl | rfl | rfl | rfl <;> rcases hp with rfl | rfl <;> rcases hf with rfl | rfl
  all_goals
    go_enter Tryz.func74, Tryz.ntmps74
    go_wp2
    go_ret
    exact ⟨rfl, (Below.refl _ _).alloc (Nat.le_refl _) _⟩

end Go.Proofs.YtmgdcnibmifdeaaGreatDoor
