/- Contracts of CodeOf and WordPlaces. -/
import Derived.Test.YtmgdcnibmifdeaaGreatDoorWCodeOf
set_option linter.unusedVariables false
namespace Go.Proofs.YtmgdcnibmifdeaaGreatDoor
open Go.RowKit Res

theorem implCodeOf_ok (m : Int) (w : World) (m0 : 0 ≤ m) (m1 : m ≤ 4095) :
    Calls Tryz.prog 16 #[.int .i64 m] w fun e w' => e = .returned (.tuple #[.int .i64 ((code m.toNat : Nat) : Int), .bool true]) ∧ Below w.heap.size w w' := by
  have hin : inB m 0 4095 = true := inB_true m0 m1
  have CC := Lib.hid (fun w => codeOf_any m w m0 m1)
  have hb0 := Below.refl w.heap.size w
  generalize code m.toNat = c at *
  go_enter Tryz.func16, Tryz.ntmps16
  go_wp2_with fail
  refine (within_any _ _ _ _).mono ?_
  rintro e w' ⟨rfl, rfl⟩
  go_wp2_with fail
  refine (CC.out _).mono ?_
  rintro e w1 ⟨rfl, hs1⟩
  go_wp2_with fail
  go_ret2
  exact ⟨rfl, hs1⟩
theorem implCodeOf_no (m : Int) (w : World) (h : inB m 0 4095 = false) :
    Calls Tryz.prog 16 #[.int .i64 m] w fun e w' => e = .returned (.tuple #[.int .i64 0, .bool false]) ∧ w = w' := by
  go_enter Tryz.func16, Tryz.ntmps16
  go_wp2_with fail
  refine (within_any _ _ _ _).mono ?_
  rintro e w' ⟨rfl, rfl⟩
  go_wp2_with fail
  go_ret2
  exact ⟨rfl, rfl⟩

theorem implWordPlaces_ok (n : Int) (w : World) (hn0 : 0 ≤ n) (hn : n ≤ 16777215) :
    Calls Tryz.prog 62 #[.int .i64 n] w fun e w' => ∃ v, e = .returned (.tuple #[v, .bool true]) ∧ Owns w.heap.size w' v (ints (places n.toNat)) ∧ Below w.heap.size w w' := by
  have hin : inB n 0 16777215 = true := inB_true hn0 hn
  go_enter Tryz.func62, Tryz.ntmps62
  go_wp2_with fail
  refine (implWordValid_any _ _).mono ?_
  rintro e w' ⟨rfl, rfl⟩
  go_wp2_with fail
  refine (placesOf_any _ _ hn0 hn).mono ?_
  rintro e w1 ⟨v, rfl, hO, hs1⟩
  go_wp2_with fail
  go_ret2
  exact ⟨v, rfl, hO, hs1⟩

end Go.Proofs.YtmgdcnibmifdeaaGreatDoor
