/- Contracts of WordText. -/
import Derived.Test.YtmgdcnibmifdeaaGreatDoorWGen
import Derived.Test.YtmgdcnibmifdeaaGreatDoorTxt
import Derived.Test.YtmgdcnibmifdeaaGreatDoorWWd
set_option linter.unusedVariables false
namespace Go.Proofs.YtmgdcnibmifdeaaGreatDoor
open Go.RowKit Res

theorem implWordText_ok (n : Nat) (w : World) (hn : n < 16777216) :
    Calls Tryz.prog 20 #[.int .i64 (n : Int)] w fun e w' => e = .returned (.tuple #[.string ⟨(wText n).toArray⟩, .bool true]) ∧ Below w.heap.size w w' := by
  have hin : inB (n : Int) 0 16777215 = true := inB_true (by omega) (by omega)
  have hnI : (n : Int) ≤ 16777215 := by omega
  have HW : Hid (Go.Lib.join (rowsTo n 4) [47] = wText n) := Lib.hid rfl
  have HWl := Lib.hid (wText_length n)
  have HS := Lib.hid (rowsTo_succ n)
  have HL := Lib.hid (rowsTo_length n)
  have HZ : Hid (rowsTo n 0 = []) := Lib.hid rfl
  generalize rowsTo n = RT at *
  generalize wText n = WT at *
  clear hn
  go_enter Tryz.func20, Tryz.ntmps20
  go_wp2_with fail
  refine (implWordValid_any _ _).mono ?_
  rintro e w' ⟨rfl, rfl⟩
  go_wp2_with fail
  go_loopw [4, 12] (fun v x wr => ∃ r : Nat, r ≤ 4 ∧ x = .int .i64 (r : Int) ∧ OwnsV 9 w.heap.size wr v (strs (RT r)) ∧ Below w.heap.size w wr)
    (fun _ x _ => (4 - (intOf x).toNat))
  case atStart => exact ⟨0, by omega, rfl, by rw [HZ.out]; exact OwnsV.empty w (Nat.le_refl _), (Below.refl _ _).alloc (Nat.le_refl _) _⟩
  case round =>
    obtain ⟨r, hr, rfl, hO, hbel⟩ := hrel
    have hsz := hbel.size
    have hlr := HL.out r
    by_cases hlt : r < 4
    · have hri : (r : Int) < 4 := by omega
      have HO := Lib.hid hO
      clear hO
      have HRS := Lib.hid (rowTo_succ n r)
      have HRL := Lib.hid (rowTo_length n r)
      have HRZ : Hid (rowTo n r 0 = []) := Lib.hid rfl
      have D := Lib.hid (HS.out r)
      generalize rowTo n r = RR at *
      obtain ⟨B0, hB0⟩ : ∃ B0, B0 = wr.heap.size := ⟨_, rfl⟩
      go_wp2_with fail
      go_loopw [6, 16] (fun v x wi => ∃ c : Nat, c ≤ 6 ∧ x = .int .i64 (c : Int) ∧ OwnsV 5 B0 wi v (bytesV (RR c)) ∧ Below B0 wr wi)
        (fun _ x _ => (6 - (intOf x).toNat))
      case atStart => exact ⟨0, by omega, rfl, by rw [HRZ.out]; exact OwnsV.empty wr (by omega), (Below.refl _ _).alloc (by omega) _⟩
      case round =>
        obtain ⟨c, hc, rfl, hO2, hbel2⟩ := hrel
        have hsz2 := hbel2.size
        have hlc := HRL.out c
        have hbl := bytesV_length (RR c)
        by_cases hlt2 : c < 6
        · have hci : (c : Int) < 6 := by omega
          have hbi := bit_int n (4 * c + r) (by omega)
          have D2 := Lib.hid (HRS.out c)
          cases hbit : n.testBit (4 * c + r)
          · rw [bitN_false hbit] at hbi
            rw [hbit] at D2
            clear hbit
            go_wp2_with (first | (at_builtin; refine wpList_appV infoByte rfl (by decide) Tryz.underlying22 rfl _ _ rfl B0 _ rfl hO2 rfl rfl (by omega) (by omega) ?_; intro v' w3 hO' hbel'))
            go_roundw
            case rel => exact ⟨c + 1, by omega, by go_num, by rw [D2.out, bytesV_append]; exact hO', hbel2.trans hbel'⟩
            case measure => simp [intOf]; omega
          · rw [bitN_true hbit] at hbi
            rw [hbit] at D2
            clear hbit
            go_wp2_with (first | (at_builtin; refine wpList_appV infoByte rfl (by decide) Tryz.underlying22 rfl _ _ rfl B0 _ rfl hO2 rfl rfl (by omega) (by omega) ?_; intro v' w3 hO' hbel'))
            go_roundw
            case rel => exact ⟨c + 1, by omega, by go_num, by rw [D2.out, bytesV_append]; exact hO', hbel2.trans hbel'⟩
            case measure => simp [intOf]; omega
        · obtain rfl : c = 6 := by omega
          obtain ⟨g, cap, rfl, hB, hg, hle, -, -⟩ := hO2.head (by omega)
          have hcv := conv_str hO2 hbl (by omega)
          rw [hB0] at hbel2
          have hO3 := HO.out.kept hbel2
          have hsl := strs_length (RT r)
          rw [hbl, hlc] at hcv
          go_wp2_with (first | (at_builtin; refine wpList_appV infoStr rfl (by decide) Tryz.underlying44 rfl _ _ rfl w.heap.size _ rfl hO3 rfl rfl (by omega) (by omega) ?_; intro v' w3 hO' hbel'))
          go_roundw
          case rel => exact ⟨r + 1, by omega, by go_num, by rw [D.out, strs_append]; exact hO', (hbel.trans (hbel2.mono hsz)).trans hbel'⟩
          case measure => simp [intOf]; omega
    · obtain rfl : r = 4 := by omega
      have CJ := Lib.hid (JoinV_any _ _ (RT 4) 47 _ hO (by omega) (by omega) (by rw [HW.out, HWl.out]; omega))
      rw [HW.out] at CJ
      clear hlt
      go_wp2_with fail
      refine CJ.out.mono ?_
      rintro e w4 ⟨rfl, hs4⟩
      go_wp2_with fail
      go_ret2
      exact ⟨rfl, hbel.trans (hs4.mono hsz)⟩

theorem str_app (l m : List UInt8) : (⟨l.toArray⟩ : ByteArray) ++ ⟨m.toArray⟩ = ⟨(l ++ m).toArray⟩ := by
  apply ByteArray.ext
  rw [ByteArray.data_append]
  simp
theorem specWordText_ok (n : Nat) (w : World) (hn : n < 16777216) :
    Calls Tryz.prog 21 #[.int .i64 (n : Int)] w fun e w' => e = .returned (.tuple #[.string ⟨(wText n).toArray⟩, .bool true]) ∧ w = w' := by
  have hin : inB (n : Int) 0 16777215 = true := inB_true (by omega) (by omega)
  have hnI : (n : Int) ≤ 16777215 := by omega
  have HW : Hid (txTo n 4 = wText n) := Lib.hid (txTo_all n)
  have HS : Hid (∀ r, txTo n (r + 1) = (if r = 0 then [] else txTo n r ++ [47]) ++ rowTo n r 6) := Lib.hid (fun r => rfl)
  have HZ : Hid (txTo n 0 = []) := Lib.hid rfl
  have HTL := Lib.hid (txTo_length n)
  generalize txTo n = TT at *
  generalize wText n = WT at *
  clear hn
  go_enter Tryz.func21, Tryz.ntmps21
  go_wp2_with fail
  refine (specWordValid_any _ _).mono ?_
  rintro e w' ⟨rfl, rfl⟩
  go_wp2_with fail
  go_loop [4, 5] (fun s x => ∃ r : Nat, r ≤ 4 ∧ x = .int .i64 (r : Int) ∧ s = .string ⟨(TT r).toArray⟩) (fun _ x => (4 - (intOf x).toNat))
  case atStart => exact ⟨0, by omega, rfl, by rw [HZ.out]⟩
  case round =>
    obtain ⟨r, hr, rfl, rfl⟩ := hrel
    by_cases hlt : r < 4
    · have hri : (r : Int) < 4 := by omega
      have HRS := Lib.hid (rowTo_succ n r)
      have HRL := Lib.hid (rowTo_length n r)
      have HRZ : Hid (rowTo n r 0 = []) := Lib.hid rfl
      have D := Lib.hid (HS.out r)
      obtain ⟨P, HP⟩ : ∃ P, Hid (P = if r = 0 then [] else TT r ++ [47]) := ⟨_, Lib.hid rfl⟩
      rw [← HP.out] at D
      have hcase : (r = 0 ∧ P = TT r) ∨ (0 < r ∧ P = TT r ++ [47]) := by
        by_cases h0 : r = 0
        · refine .inl ⟨h0, ?_⟩
          rw [HP.out, if_pos h0, h0, HZ.out]
        · exact .inr ⟨by omega, by rw [HP.out, if_neg h0]⟩
      clear HP
      generalize rowTo n r = RR at *
      have fin : ∀ (u : List UInt8), u = P → True := fun _ _ => trivial
      have htl := HTL.out r
      have htl2 : (TT r).length ≤ 100 := by omega
      have hPl : P.length ≤ 100 := by
        rcases hcase with ⟨h0, hP⟩ | ⟨h0, hP⟩
        · rw [hP]; exact htl2
        · rw [hP]; simp; omega
      clear htl
      rcases hcase with ⟨h0, hP⟩ | ⟨h0, hP⟩
      · have h0i : ¬ (0 : Int) < (r : Int) := by omega
        have HP := Lib.hid hP
        clear h0 hP
        go_wp2_with fail
        go_loop [4, 6] (fun s x => ∃ c : Nat, c ≤ 6 ∧ x = .int .i64 (c : Int) ∧ s = .string ⟨(P ++ RR c).toArray⟩) (fun _ x => (6 - (intOf x).toNat))
        case atStart => exact ⟨0, by omega, rfl, by rw [HRZ.out, List.append_nil, HP.out]⟩
        case round =>
          obtain ⟨c, hc, rfl, rfl⟩ := hrel
          have hrl := HRL.out c
          have hll : (P ++ RR c).length ≤ 200 := by rw [List.length_append]; omega
          by_cases hlt2 : c < 6
          · have hci : (c : Int) < 6 := by omega
            have CB := Lib.hid (fun w => l1Bit_any (n : Int) ((4 * c + r : Nat) : Int) w (by omega) (by omega) (by omega) (by omega))
            rw [Int.toNat_natCast, Int.toNat_natCast] at CB
            have D2 := Lib.hid (HRS.out c)
            have e0 : ((4 * c + r : Nat) : Int) = 4 * (c : Int) + (r : Int) := by push_cast; rfl
            rw [e0] at CB
            clear e0
            cases hbit : n.testBit (4 * c + r)
            · rw [bitN_false hbit] at CB
              rw [hbit] at D2
              clear hbit
              go_wp2_with fail
              refine (CB.out _).mono ?_
              rintro e w' ⟨rfl, rfl⟩
              go_wp2_with fail
              go_round
              case rel => exact ⟨c + 1, by omega, by go_num, by rw [D2.out, ← List.append_assoc]; exact congrArg _ (str_app _ [46])⟩
              case measure => simp [intOf]; omega
            · rw [bitN_true hbit] at CB
              rw [hbit] at D2
              clear hbit
              go_wp2_with fail
              refine (CB.out _).mono ?_
              rintro e w' ⟨rfl, rfl⟩
              go_wp2_with fail
              go_round
              case rel => exact ⟨c + 1, by omega, by go_num, by rw [D2.out, ← List.append_assoc]; exact congrArg _ (str_app _ [120])⟩
              case measure => simp [intOf]; omega
          · obtain rfl : c = 6 := by omega
            go_wp2_with fail
            go_round
            case rel => exact ⟨r + 1, by omega, by go_num, by rw [D.out]⟩
            case measure => simp [intOf]; omega
      · have h0i : (0 : Int) < (r : Int) := by omega
        have HP := Lib.hid hP
        clear h0 hP
        go_wp2_with fail
        go_loop [4, 6] (fun s x => ∃ c : Nat, c ≤ 6 ∧ x = .int .i64 (c : Int) ∧ s = .string ⟨(P ++ RR c).toArray⟩) (fun _ x => (6 - (intOf x).toNat))
        case atStart => exact ⟨0, by omega, rfl, by rw [HRZ.out, List.append_nil, HP.out]; exact congrArg _ (str_app _ [47])⟩
        case round =>
          obtain ⟨c, hc, rfl, rfl⟩ := hrel
          have hrl := HRL.out c
          have hll : (P ++ RR c).length ≤ 200 := by rw [List.length_append]; omega
          by_cases hlt2 : c < 6
          · have hci : (c : Int) < 6 := by omega
            have CB := Lib.hid (fun w => l1Bit_any (n : Int) ((4 * c + r : Nat) : Int) w (by omega) (by omega) (by omega) (by omega))
            rw [Int.toNat_natCast, Int.toNat_natCast] at CB
            have D2 := Lib.hid (HRS.out c)
            have e0 : ((4 * c + r : Nat) : Int) = 4 * (c : Int) + (r : Int) := by push_cast; rfl
            rw [e0] at CB
            clear e0
            cases hbit : n.testBit (4 * c + r)
            · rw [bitN_false hbit] at CB
              rw [hbit] at D2
              clear hbit
              go_wp2_with fail
              refine (CB.out _).mono ?_
              rintro e w' ⟨rfl, rfl⟩
              go_wp2_with fail
              go_round
              case rel => exact ⟨c + 1, by omega, by go_num, by rw [D2.out, ← List.append_assoc]; exact congrArg _ (str_app _ [46])⟩
              case measure => simp [intOf]; omega
            · rw [bitN_true hbit] at CB
              rw [hbit] at D2
              clear hbit
              go_wp2_with fail
              refine (CB.out _).mono ?_
              rintro e w' ⟨rfl, rfl⟩
              go_wp2_with fail
              go_round
              case rel => exact ⟨c + 1, by omega, by go_num, by rw [D2.out, ← List.append_assoc]; exact congrArg _ (str_app _ [120])⟩
              case measure => simp [intOf]; omega
          · obtain rfl : c = 6 := by omega
            go_wp2_with fail
            go_round
            case rel => exact ⟨r + 1, by omega, by go_num, by rw [D.out]⟩
            case measure => simp [intOf]; omega
    · obtain rfl : r = 4 := by omega
      rw [HW.out]
      go_wp2_with fail
      go_ret2
      exact ⟨rfl, rfl⟩

end Go.Proofs.YtmgdcnibmifdeaaGreatDoor
