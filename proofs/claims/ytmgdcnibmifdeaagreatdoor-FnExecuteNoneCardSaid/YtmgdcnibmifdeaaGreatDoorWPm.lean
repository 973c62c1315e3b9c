/- Contracts of PermValid. -/
import Derived.Test.YtmgdcnibmifdeaaGreatDoorWWd
import Derived.Test.YtmgdcnibmifdeaaGreatDoorPm
set_option linter.unusedVariables false
namespace Go.Proofs.YtmgdcnibmifdeaaGreatDoor
open Go.RowKit Res

/-- What WordOf answers. -/
def wordOfV (l : List Int) : Value := if diff l then .tuple #[.int .i64 (mk l l.length : Nat), .bool true] else .tuple #[.int .i64 0, .bool false]

theorem implWordOf_any (a : Option Addr) (cap : Nat) (l : List Int) (w : World) (hl : l.length ≤ 9223372036854775807) (hr : Reads .i64 w a l) :
    Calls Tryz.prog 87 #[.slice a l.length cap] w fun e w' => e = .returned (wordOfV l) ∧ w = w' := by
  go_enter Tryz.func87, Tryz.ntmps87
  go_wp2
  go_loop [4, 9] (fun s x => ∃ k : Nat, k ≤ l.length ∧ x = .int .i64 (k : Int) ∧ okTo l k ∧ s = .int .i64 (mk l k : Nat))
    (fun _ x => (l.length - (intOf x).toNat))
  case atStart => exact ⟨0, by omega, rfl, okTo_zero l, rfl⟩
  case round =>
    obtain ⟨k, hk, rfl, hok, rfl⟩ := hrel
    have hlt24 := mk_lt hok
    by_cases hlt : k < l.length
    · obtain ⟨b, off, ha, hb, hc⟩ := hr k hlt
      subst ha
      have hki : (k : Int) < (l.length : Int) := by omega
      have D1 := Lib.hid (diff_out hlt)
      have D2 := Lib.hid (fun h0 hb => diff_twice hlt h0 hok hb)
      have D3 := Lib.hid (fun h0 h1 hb => okTo_step hok h0 h1 hb)
      have D4 : Hid (mk l (k + 1) = mk l k ||| 2 ^ (l.getD k 0).toNat) := Lib.hid rfl
      rw [getD_get hlt] at hc
      rw [getD_get hlt] at D1 D2 D3 D4
      clear hok
      generalize mk l k = m at *
      generalize l[k] = y at *
      cases hin : inB y 0 23
      · have hdf := D1.out hin
        go_wp2_with fail
        refine (placeOk_any _ _).mono ?_
        rintro e w' ⟨rfl, rfl⟩
        go_wp2_with fail
        go_ret2
        refine ⟨?_, rfl⟩
        unfold wordOfV
        rw [hdf]
        rfl
      · obtain ⟨y0, y1⟩ := inB_iff.1 hin
        obtain ⟨q, rfl⟩ := Int.eq_ofNat_of_zero_le y0
        rw [Int.toNat_natCast] at D2 D3 D4
        cases hbit : m.testBit q
        · have hb1 : (bits .and .i64 ((m : Int) / 2 ^ q) 1 == 1) = false := by rw [bit_int m q (by omega)]; exact bitN_test_false hbit
          have D5 := Lib.hid (D3.out y0 y1 hbit)
          have hor := or_step (m := m) (k := q) (by omega) (by omega)
          have HOR := Lib.hid hor
          clear hor hbit
          go_wp2_with fail
          refine (placeOk_any _ _).mono ?_
          rintro e w' ⟨rfl, rfl⟩
          go_wp2_with fail
          go_round
          case rel => exact ⟨k + 1, by omega, by go_num, D5.out, by rw [D4.out]; exact congrArg _ HOR.out⟩
          case measure => simp [intOf]; omega
        · have hb1 : (bits .and .i64 ((m : Int) / 2 ^ q) 1 == 1) = true := by rw [bit_int m q (by omega)]; exact bitN_test_true hbit
          have hdf := D2.out y0 hbit
          clear hbit
          go_wp2_with fail
          refine (placeOk_any _ _).mono ?_
          rintro e w' ⟨rfl, rfl⟩
          go_wp2_with fail
          go_ret2
          refine ⟨?_, rfl⟩
          unfold wordOfV
          rw [hdf]
          rfl
    · go_wp2
      go_ret2
      obtain rfl : k = l.length := by omega
      refine ⟨?_, rfl⟩
      unfold wordOfV
      rw [(okTo_iff l).1 hok]
      rfl

end Go.Proofs.YtmgdcnibmifdeaaGreatDoor
