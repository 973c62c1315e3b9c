/- Contracts of OctadIn and of the reference's list of places. -/
import Derived.Test.YtmgdcnibmifdeaaGreatDoorWCode
set_option linter.unusedVariables false
namespace Go.Proofs.YtmgdcnibmifdeaaGreatDoor
open Go.RowKit Res

theorem l1Places_any (n : Int) (w : World) (hn0 : 0 ≤ n) (hn : n ≤ 16777215) :
    Calls Tryz.prog 101 #[.int .i64 n] w fun e w' => ∃ v, e = .returned v ∧ Owns w.heap.size w' v (ints (places n.toNat)) ∧ Below w.heap.size w w' := by
  obtain ⟨n, rfl⟩ := Int.eq_ofNat_of_zero_le hn0
  rw [Int.toNat_natCast]
  go_enter Tryz.func101, Tryz.ntmps101
  go_wp2
  go_loopw [3, 4] (fun v x wr => ∃ k : Nat, k ≤ 24 ∧ x = .int .i64 (k : Int) ∧ Owns w.heap.size wr v (ints (placesTo n k)) ∧ Below w.heap.size w wr)
    (fun _ x _ => (24 - (intOf x).toNat))
  case atStart => exact ⟨0, by omega, rfl, Owns.empty w (Nat.le_refl _), (Below.refl _ _).alloc (Nat.le_refl _) _⟩
  case round =>
    obtain ⟨k, hk, rfl, hO, hbel⟩ := hrel
    have hlen := placesTo_length n k
    rw [← ints_length] at hlen
    have hsz := hbel.size
    by_cases hlt : k < 24
    · cases hbit : n.testBit k
      · have hb : (((bitN n k : Nat) : Int) == 1) = false := bitN_test_false hbit
        have Hst := Lib.hid (placesTo_miss hbit)
        clear hbit
        go_wp2_with fail
        refine (l1Bit_any _ _ _ (by omega) (by omega) (by omega) (by omega)).mono ?_
        rintro e w' ⟨rfl, rfl⟩
        rw [Int.toNat_natCast, Int.toNat_natCast]
        go_wp2_with fail
        go_roundw
        case rel => exact ⟨k + 1, by omega, by go_num, by rw [Hst.out]; exact hO, hbel⟩
        case measure => simp [intOf]; omega
      · have hb : (((bitN n k : Nat) : Int) == 1) = true := bitN_test_true hbit
        have Hst := Lib.hid (placesTo_hit hbit)
        clear hbit
        go_wp2_with fail
        refine (l1Bit_any _ _ _ (by omega) (by omega) (by omega) (by omega)).mono ?_
        rintro e w' ⟨rfl, rfl⟩
        rw [Int.toNat_natCast, Int.toNat_natCast]
        go_wp2_with (at_builtin; refine wpList_app rfl _ _ rfl w.heap.size _ rfl hO rfl (by omega) (by omega) ?_; intro v' w1 hO' hbel' hg')
        go_roundw
        case rel => exact ⟨k + 1, by omega, by go_num, by rw [Hst.out, ints_append]; exact hO', hbel.trans hbel'⟩
        case measure => simp [intOf]; omega
    · go_wp2
      go_ret
      obtain rfl : k = 24 := by omega
      exact ⟨_, rfl, hO, hbel⟩

/-- Is a number an octad? -/
def octB (n : Int) : Bool := (inB n 0 16777215 && codeB n.toNat) && wt n.toNat == 8

theorem implOctadIn_any (n : Int) (w : World) :
    Calls Tryz.prog 97 #[.int .i64 n] w fun e w' => e = .returned (.bool (octB n)) ∧ Below w.heap.size w w' := by
  have hb0 := Below.refl w.heap.size w
  unfold octB
  cases h1 : inB n 0 16777215
  · go_enter Tryz.func97, Tryz.ntmps97
    go_wp2_with fail
    refine (implCodeIn_no _ _ h1).mono ?_
    rintro e w' ⟨rfl, rfl⟩
    go_wp2_with fail
    go_ret
    exact ⟨rfl, hb0⟩
  · obtain ⟨n0, n1⟩ := inB_iff.1 h1
    cases h2 : codeB n.toNat
    · go_enter Tryz.func97, Tryz.ntmps97
      go_wp2_with fail
      refine (implCodeIn_ok _ _ n0 n1).mono ?_
      rintro e w1 ⟨rfl, hs1⟩
      have hb1 := hb0.trans (hs1.mono hb0.size)
      rw [h2]
      go_wp2_with fail
      go_ret
      exact ⟨rfl, hb1⟩
    · go_enter Tryz.func97, Tryz.ntmps97
      go_wp2_with fail
      refine (implCodeIn_ok _ _ n0 n1).mono ?_
      rintro e w1 ⟨rfl, hs1⟩
      have hb1 := hb0.trans (hs1.mono hb0.size)
      rw [h2]
      go_wp2_with fail
      refine (weight_any _ _ n0 n1).mono ?_
      rintro e w' ⟨rfl, rfl⟩
      go_wp2_with fail
      go_ret
      refine ⟨ret_bool ?_, hb1⟩
      rw [Bool.true_and, Bool.true_and, Bool.eq_iff_iff, beq_iff_eq, beq_iff_eq]
      omega

theorem specOctadIn_any (n : Int) (w : World) :
    Calls Tryz.prog 148 #[.int .i64 n] w fun e w' => e = .returned (.bool (octB n)) ∧ Below w.heap.size w w' := by
  have hb0 := Below.refl w.heap.size w
  unfold octB
  cases h1 : inB n 0 16777215
  · go_enter Tryz.func148, Tryz.ntmps148
    go_wp2_with fail
    refine (specCodeIn_no _ _ h1).mono ?_
    rintro e w' ⟨rfl, rfl⟩
    go_wp2_with fail
    go_ret
    exact ⟨rfl, hb0⟩
  · obtain ⟨n0, n1⟩ := inB_iff.1 h1
    cases h2 : codeB n.toNat
    · go_enter Tryz.func148, Tryz.ntmps148
      go_wp2_with fail
      refine (specCodeIn_ok _ _ n0 n1).mono ?_
      rintro e w1 ⟨rfl, hs1⟩
      have hb1 := hb0.trans (hs1.mono hb0.size)
      rw [h2]
      go_wp2_with fail
      go_ret
      exact ⟨rfl, hb1⟩
    · go_enter Tryz.func148, Tryz.ntmps148
      go_wp2_with fail
      refine (specCodeIn_ok _ _ n0 n1).mono ?_
      rintro e w1 ⟨rfl, hs1⟩
      have hb1 := hb0.trans (hs1.mono hb0.size)
      rw [h2]
      go_wp2_with fail
      refine (l1Weight_any _ _ n0 n1).mono ?_
      rintro e w' ⟨rfl, rfl⟩
      go_wp2_with fail
      go_ret
      refine ⟨ret_bool ?_, hb1⟩
      rw [Bool.true_and, Bool.true_and, Bool.eq_iff_iff, beq_iff_eq, beq_iff_eq]
      omega

end Go.Proofs.YtmgdcnibmifdeaaGreatDoor
