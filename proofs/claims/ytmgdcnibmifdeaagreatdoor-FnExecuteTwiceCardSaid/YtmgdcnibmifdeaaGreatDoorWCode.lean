/- Contracts of CodeIn and of the reference's l3In. -/
import Derived.Test.YtmgdcnibmifdeaaGreatDoorWCdIn
set_option linter.unusedVariables false
namespace Go.Proofs.YtmgdcnibmifdeaaGreatDoor
open Go.RowKit Res

theorem implCodeIn_no (n : Int) (w : World) (h : inB n 0 16777215 = false) :
    Calls Tryz.prog 64 #[.int .i64 n] w fun e w' => e = .returned (.bool false) ∧ w = w' := by
  go_enter Tryz.func64, Tryz.ntmps64
  go_wp2_with fail
  refine (implWordValid_any _ _).mono ?_
  rintro e w' ⟨rfl, rfl⟩
  go_wp2_with fail
  go_ret
  exact ⟨rfl, rfl⟩

theorem topS_succ (n k : Nat) : topS n (k + 1) = topS n k + bitN n (4 * k) := rfl

theorem implCodeIn_ok (n : Int) (w : World) (n0 : 0 ≤ n) (n1 : n ≤ 16777215) :
    Calls Tryz.prog 64 #[.int .i64 n] w fun e w' => e = .returned (.bool (codeB n.toNat)) ∧ Below w.heap.size w w' := by
  obtain ⟨n, rfl⟩ := Int.eq_ofNat_of_zero_le n0
  rw [Int.toNat_natCast]
  have hb : inB (n : Int) 0 16777215 = true := inB_true n0 n1
  go_enter Tryz.func64, Tryz.ntmps64
  go_wp2_with fail
  refine (implWordValid_any _ _).mono ?_
  rintro e w' ⟨rfl, rfl⟩
  go_wp2_with fail
  go_loop [3, 9] (fun s x => ∃ k : Nat, k ≤ 6 ∧ x = .int .i64 (k : Int) ∧ s = .int .i64 (topS n k : Nat)) (fun _ x => (6 - (intOf x).toNat))
  case atStart => exact ⟨0, by omega, rfl, rfl⟩
  case round =>
    obtain ⟨k, hk, rfl, rfl⟩ := hrel
    have ht := topS_le n k
    by_cases hlt : k < 6
    · have hbn := bitN_le n (4 * k)
      have hbi := bit_int n (4 * k) (by omega)
      have hst := Lib.hid (topS_succ n k)
      go_wp2_with fail
      go_round
      case rel => exact ⟨k + 1, by omega, by go_num, by rw [hst.out]; push_cast; rfl⟩
      case measure => simp [intOf]; omega
    · obtain rfl : k = 6 := by omega
      go_wp2_with fail
      go_loop [20] (fun x => ∃ k : Nat, k ≤ 6 ∧ x = .int .i64 (k : Int) ∧ Hid ((List.range k).all (parOk n) = true)) (fun x => (6 - (intOf x).toNat))
      case atStart => exact ⟨0, by omega, rfl, Lib.hid rfl⟩
      case round =>
        obtain ⟨k, hk, rfl, hall⟩ := hrel
        by_cases hlt : k < 6
        · have hcl := col_lt n k
          have hki : (k : Int) ≤ 5 := by omega
          have hwl := wt_le (col n k)
          have hpo : parOk n k = (wt (col n k) % 2 == topS n 6 % 2) := rfl
          have D1 := Lib.hid (codeB_par (n := n) hlt)
          have D2 := Lib.hid (par_step (n := n) (k := k) hall.out)
          generalize topS n 6 = t at *
          go_wp2_with fail
          refine (column_any _ _ _ (by omega) (by omega) (by omega) (by omega)).mono ?_
          rintro e w' ⟨rfl, rfl⟩
          rw [Int.toNat_natCast, Int.toNat_natCast]
          generalize col n k = m at *
          go_wp2_with fail
          refine (weight_any _ _ (by omega) (by omega)).mono ?_
          rintro e w' ⟨rfl, rfl⟩
          rw [Int.toNat_natCast]
          generalize wt m = u at *
          by_cases he : u % 2 = t % 2
          · have E := Lib.hid (D2.out (by rw [hpo, beq_iff_eq]; exact he))
            have hn : (((u : Int) % 2) != ((t : Int) % 2)) = false := by rw [bne_eq_false_iff_eq]; omega
            clear hpo D1 D2 he
            go_wp2_with fail
            go_round
            case rel => exact ⟨k + 1, by omega, by go_num, E⟩
            case measure => simp [intOf]; omega
          · have E := Lib.hid (D1.out (by rw [hpo, beq_eq_false_iff_ne]; exact he))
            have hn : (((u : Int) % 2) != ((t : Int) % 2)) = true := by rw [bne_iff_ne]; omega
            clear hpo D1 D2 he
            go_wp2_with fail
            go_ret
            exact ⟨ret_bool E.out.symm, Below.refl _ _⟩
        · obtain rfl : k = 6 := by omega
          go_wp2_with fail
          refine (scores_any _ _ (by omega) (by omega)).mono ?_
          rintro e w1 ⟨v1, rfl, hO1, hs1⟩
          rw [Int.toNat_natCast] at hO1
          obtain ⟨a1, c1, rfl, hR1, hl1, hc1⟩ := hO1.shapeN
          rw [scl_length]
          go_wp2_with fail
          refine (implHexIn_any _ _ _ _ (scl_length n) (scl_le n) hR1).mono ?_
          rintro e w2 ⟨rfl, hs2⟩
          go_wp2_with fail
          go_ret
          refine ⟨ret_bool ?_, hs1.trans (hs2.mono hs1.size)⟩
          unfold codeB
          rw [hall.out, Bool.true_and]

theorem l3In_ok (n : Int) (w : World) (n0 : 0 ≤ n) (n1 : n ≤ 16777215) :
    Calls Tryz.prog 150 #[.int .i64 n] w fun e w' => e = .returned (.bool (codeB n.toNat)) ∧ Below w.heap.size w w' := by
  obtain ⟨n, rfl⟩ := Int.eq_ofNat_of_zero_le n0
  rw [Int.toNat_natCast]
  obtain ⟨t, ht⟩ : ∃ t, topS n 6 % 2 = t := ⟨_, rfl⟩
  have htp : t < 2 := by rw [← ht]; exact Nat.mod_lt _ (by omega)
  have T := Lib.hid ht
  clear ht
  go_enter Tryz.func150, Tryz.ntmps150
  go_wp2_with fail
  refine (l3Top_any _ _ (by omega) (by omega)).mono ?_
  rintro e w' ⟨rfl, rfl⟩
  rw [Int.toNat_natCast, T.out]
  go_wp2_with fail
  go_loop [4] (fun x => ∃ k : Nat, k ≤ 6 ∧ x = .int .i64 (k : Int) ∧ Hid ((List.range k).all (parOk n) = true)) (fun x => (6 - (intOf x).toNat))
  case atStart => exact ⟨0, by omega, rfl, Lib.hid rfl⟩
  case round =>
    obtain ⟨k, hk, rfl, hall⟩ := hrel
    by_cases hlt : k < 6
    · have hcl := col_lt n k
      have hki : (k : Int) ≤ 5 := by omega
      have hwl := wt_le (col n k)
      have hpo : parOk n k = (wt (col n k) % 2 == t) := by unfold parOk; rw [T.out]
      have D1 := Lib.hid (codeB_par (n := n) hlt)
      have D2 := Lib.hid (par_step (n := n) (k := k) hall.out)
      go_wp2_with fail
      refine (l3Column_any _ _ _ (by omega) (by omega) (by omega) (by omega)).mono ?_
      rintro e w' ⟨rfl, rfl⟩
      rw [Int.toNat_natCast, Int.toNat_natCast]
      generalize col n k = m at *
      go_wp2_with fail
      refine (l1Weight_any _ _ (by omega) (by omega)).mono ?_
      rintro e w' ⟨rfl, rfl⟩
      rw [Int.toNat_natCast]
      generalize wt m = u at *
      by_cases he : u % 2 = t
      · have E := Lib.hid (D2.out (by rw [hpo, beq_iff_eq]; exact he))
        have hn : (((u : Int) % 2) != (t : Int)) = false := by rw [bne_eq_false_iff_eq]; omega
        clear hpo D1 D2 he
        go_wp2_with fail
        go_round
        case rel => exact ⟨k + 1, by omega, by go_num, E⟩
        case measure => simp [intOf]; omega
      · have E := Lib.hid (D1.out (by rw [hpo, beq_eq_false_iff_ne]; exact he))
        have hn : (((u : Int) % 2) != (t : Int)) = true := by rw [bne_iff_ne]; omega
        clear hpo D1 D2 he
        go_wp2_with fail
        go_ret
        exact ⟨ret_bool E.out.symm, Below.refl _ _⟩
    · obtain rfl : k = 6 := by omega
      go_wp2_with fail
      refine (l3Scores_any _ _ (by omega) (by omega)).mono ?_
      rintro e w1 ⟨v1, rfl, hO1, hs1⟩
      rw [Int.toNat_natCast] at hO1
      obtain ⟨a1, c1, rfl, hR1, hl1, hc1⟩ := hO1.shapeN
      rw [scl_length]
      go_wp2_with fail
      refine (specHexIn_any _ _ _ _ (scl_length n) (scl_le n) hR1).mono ?_
      rintro e w2 ⟨rfl, hs2⟩
      go_wp2_with fail
      go_ret
      refine ⟨ret_bool ?_, hs1.trans (hs2.mono hs1.size)⟩
      unfold codeB
      rw [hall.out, Bool.true_and]

theorem specCodeIn_no (n : Int) (w : World) (h : inB n 0 16777215 = false) :
    Calls Tryz.prog 106 #[.int .i64 n] w fun e w' => e = .returned (.bool false) ∧ w = w' := by
  go_enter Tryz.func106, Tryz.ntmps106
  go_wp2_with fail
  refine (specWordValid_any _ _).mono ?_
  rintro e w' ⟨rfl, rfl⟩
  go_wp2_with fail
  go_ret
  exact ⟨rfl, rfl⟩
theorem specCodeIn_ok (n : Int) (w : World) (n0 : 0 ≤ n) (n1 : n ≤ 16777215) :
    Calls Tryz.prog 106 #[.int .i64 n] w fun e w' => e = .returned (.bool (codeB n.toNat)) ∧ Below w.heap.size w w' := by
  have hb : inB n 0 16777215 = true := inB_true n0 n1
  have hb0 := Below.refl w.heap.size w
  go_enter Tryz.func106, Tryz.ntmps106
  go_wp2_with fail
  refine (specWordValid_any _ _).mono ?_
  rintro e w' ⟨rfl, rfl⟩
  go_wp2_with fail
  refine (l3In_ok _ _ n0 n1).mono ?_
  rintro e w1 ⟨rfl, hs1⟩
  have hb1 := hb0.trans (hs1.mono hb0.size)
  go_wp2_with fail
  go_ret
  exact ⟨rfl, hs1⟩

end Go.Proofs.YtmgdcnibmifdeaaGreatDoor
