/- Contracts of the reference's list of octads: WordOf, l4All, l4With, OctadThrough. -/
import Derived.Test.YtmgdcnibmifdeaaGreatDoorWCdS
import Derived.Test.YtmgdcnibmifdeaaGreatDoorWWd
import Derived.Test.YtmgdcnibmifdeaaGreatDoorWPm
import Derived.Test.YtmgdcnibmifdeaaGreatDoorWSort
import Derived.Test.YtmgdcnibmifdeaaGreatDoorMk
import Derived.Test.YtmgdcnibmifdeaaGreatDoorWMark
import Derived.Test.YtmgdcnibmifdeaaGreatDoorOct
set_option linter.unusedVariables false
namespace Go.Proofs.YtmgdcnibmifdeaaGreatDoor
open Go.RowKit Res

theorem specWordOf_any (a : Option Addr) (cap : Nat) (l : List Int) (w : World) (hl : l.length ≤ 9223372036854775807) (hr : Reads .i64 w a l) :
    Calls Tryz.prog 152 #[.slice a l.length cap] w fun e w' => e = .returned (wordOfV l) ∧ w = w' := by
  go_enter Tryz.func152, Tryz.ntmps152
  go_wp2
  go_loop [4, 5] (fun s x => ∃ k : Nat, k ≤ l.length ∧ x = .int .i64 (k : Int) ∧ okTo l k ∧ s = .int .i64 (mk l k : Nat))
    (fun _ x => (l.length - (intOf x).toNat))
  case atStart => exact ⟨0, by omega, rfl, okTo_zero l, rfl⟩
  case round =>
    obtain ⟨k, hk, rfl, hok, rfl⟩ := hrel
    have hlt24 := mk_lt hok
    by_cases hlt : k < l.length
    · obtain ⟨b, off, ha, hb, hc⟩ := hr k hlt
      subst ha
      have hki : (k : Int) < (l.length : Int) := by omega
      have D1 := Lib.hid (diff_out hlt)
      have D2 := Lib.hid (fun h0 hb => diff_twice hlt h0 hok hb)
      have D3 := Lib.hid (fun h0 h1 hb => okTo_step hok h0 h1 hb)
      have D4 : Hid (mk l (k + 1) = mk l k ||| 2 ^ (l.getD k 0).toNat) := Lib.hid rfl
      rw [getD_get hlt] at hc
      rw [getD_get hlt] at D1 D2 D3 D4
      clear hok
      generalize mk l k = m at *
      generalize l[k] = y at *
      cases hin : inB y 0 23
      · have hdf := D1.out hin
        go_wp2_with fail
        refine (l6In_any _ _ _ _).mono ?_
        rintro e w' ⟨rfl, rfl⟩
        go_wp2_with fail
        go_ret2
        refine ⟨?_, rfl⟩
        unfold wordOfV
        rw [hdf]
        rfl
      · obtain ⟨y0, y1⟩ := inB_iff.1 hin
        obtain ⟨q, rfl⟩ := Int.eq_ofNat_of_zero_le y0
        rw [Int.toNat_natCast] at D2 D3 D4
        have CB := Lib.hid (fun w => l1Bit_any (m : Int) (q : Int) w (by omega) (by omega) (by omega) (by omega))
        rw [Int.toNat_natCast, Int.toNat_natCast] at CB
        cases hbit : m.testBit q
        · have hb1 : (((bitN m q : Nat) : Int) == 1) = false := bitN_test_false hbit
          have D5 := Lib.hid (D3.out y0 y1 hbit)
          have hor := (add_step (m := m) (k := q) (by omega) (by omega)).trans (congrArg (Nat.cast : Nat → Int) (add_bit hbit))
          have HOR := Lib.hid hor
          generalize bitN m q = bb at *
          clear hor hbit D1 D2 D3
          go_wp2_with fail
          refine (l6In_any _ _ _ _).mono ?_
          rintro e w' ⟨rfl, rfl⟩
          go_wp2_with fail
          refine (CB.out _).mono ?_
          rintro e w' ⟨rfl, rfl⟩
          go_wp2_with fail
          go_round
          case rel => exact ⟨k + 1, by omega, by go_num, D5.out, by rw [D4.out]; exact congrArg _ HOR.out⟩
          case measure => simp [intOf]; omega
        · have hb1 : (((bitN m q : Nat) : Int) == 1) = true := bitN_test_true hbit
          have hdf := D2.out y0 hbit
          generalize bitN m q = bb at *
          clear hbit D1 D2 D3
          go_wp2_with fail
          refine (l6In_any _ _ _ _).mono ?_
          rintro e w' ⟨rfl, rfl⟩
          go_wp2_with fail
          refine (CB.out _).mono ?_
          rintro e w' ⟨rfl, rfl⟩
          go_wp2_with fail
          go_ret2
          refine ⟨?_, rfl⟩
          unfold wordOfV
          rw [hdf]
          rfl
    · go_wp2
      go_ret2
      obtain rfl : k = l.length := by omega
      refine ⟨?_, rfl⟩
      unfold wordOfV
      rw [(okTo_iff l).1 hok]
      rfl

theorem l4All_any (w : World) :
    Calls Tryz.prog 149 #[] w fun e w' => ∃ v, e = .returned v ∧ Owns w.heap.size w' v ocs ∧ Below w.heap.size w w' := by
  have hocs : srt (ocsTo 4096) = ocs := rfl
  generalize ocs = S at *
  go_enter Tryz.func149, Tryz.ntmps149
  go_wp2_with fail
  go_loopw [1, 2] (fun v x wr => ∃ k : Nat, k ≤ 4096 ∧ x = .int .i64 (k : Int) ∧ Owns w.heap.size wr v (ocsTo k) ∧ Below w.heap.size w wr)
    (fun _ x _ => (4096 - (intOf x).toNat))
  case atStart => exact ⟨0, by omega, rfl, Owns.empty w (Nat.le_refl _), (Below.refl _ _).alloc (Nat.le_refl _) _⟩
  case round =>
    obtain ⟨k, hk, rfl, hO, hbel⟩ := hrel
    have hlen := ocsTo_length k
    have hsz := hbel.size
    by_cases hlt : k < 4096
    · have hki : (k : Int) < 4096 := by omega
      have CC := Lib.hid (fun w => l3Of_any (k : Int) w (by omega) (by omega))
      rw [Int.toNat_natCast] at CC
      have hcl := code_lt hlt
      have CW := Lib.hid (fun w => l1Weight_any ((code k : Nat) : Int) w (by omega) (by omega))
      rw [Int.toNat_natCast] at CW
      by_cases h8 : wt (code k) = 8
      · have hb8 : (((wt (code k) : Nat) : Int) == 8) = true := by rw [h8]; rfl
        have D := Lib.hid (ocsTo_hit h8)
        clear h8
        generalize wt (code k) = n at *
        generalize code k = c at *
        go_wp2_with fail
        refine (CC.out _).mono ?_
        rintro e w1 ⟨rfl, hs1⟩
        have hO1 := hO.kept hs1
        have hb1 := hbel.trans (hs1.mono hsz)
        have hsz1 := hb1.size
        go_wp2_with fail
        refine (CW.out _).mono ?_
        rintro e w' ⟨rfl, rfl⟩
        go_wp2_with (first | (at_builtin; refine wpList_app rfl _ _ rfl w.heap.size _ rfl hO1 rfl (by omega) (by omega) ?_; intro v' w2 hO' hbel' hg'))
        go_roundw
        case rel => exact ⟨k + 1, by omega, by go_num, by rw [D.out]; exact hO', hb1.trans hbel'⟩
        case measure => simp [intOf]; omega
      · have hb8 : (((wt (code k) : Nat) : Int) == 8) = false := by rw [beq_eq_false_iff_ne]; omega
        have D := Lib.hid (ocsTo_miss h8)
        clear h8
        generalize wt (code k) = n at *
        generalize code k = c at *
        go_wp2_with fail
        refine (CC.out _).mono ?_
        rintro e w1 ⟨rfl, hs1⟩
        have hO1 := hO.kept hs1
        have hb1 := hbel.trans (hs1.mono hsz)
        go_wp2_with fail
        refine (CW.out _).mono ?_
        rintro e w' ⟨rfl, rfl⟩
        go_wp2_with fail
        go_roundw
        case rel => exact ⟨k + 1, by omega, by go_num, by rw [D.out]; exact hO1, hb1⟩
        case measure => simp [intOf]; omega
    · obtain rfl : k = 4096 := by omega
      obtain ⟨a1, c1, rfl, hR1, hl1, hc1⟩ := hO.shape
      have CS := Lib.hid (l4Sort_any (ocsTo 4096).length a1 c1 (ocsTo 4096) wr rfl (by omega) hl1 hc1 hR1)
      rw [hocs] at CS
      have hsl : S.length = (ocsTo 4096).length := by rw [← hocs]; exact srt_length _
      have hsh : (ocsTo 4096).length < 2 → ocsTo 4096 = S := fun h => by rw [← hocs, srt_short h]
      generalize ocsTo 4096 = T at *
      have HT := Lib.hid hsl
      have HU := Lib.hid hsh
      clear hsl hsh hocs
      generalize T.length = N at *
      go_wp2_with fail
      refine CS.out.mono ?_
      rintro e w2 ⟨a2, c2, rfl, hR2, hO2, hO3, hl2, hc2, hs2⟩
      go_wp2_with fail
      go_ret
      refine ⟨_, rfl, ?_, hbel.trans (hs2.mono hsz)⟩
      by_cases h2 : 2 ≤ N
      · exact (hO2 h2).mono hsz
      · obtain ⟨rfl, rfl, rfl⟩ := hO3 (by omega)
        rw [← HU.out (by omega)]
        exact hO

theorem l4With_any (n : Int) (w : World) (hn0 : 0 ≤ n) (hn : n ≤ 16777215) :
    Calls Tryz.prog 146 #[.int .i64 n] w fun e w' => ∃ v, e = .returned v ∧ Owns w.heap.size w' v (wi n.toNat) ∧ Below w.heap.size w w' := by
  obtain ⟨n, rfl⟩ := Int.eq_ofNat_of_zero_le hn0
  rw [Int.toNat_natCast]
  have hb1 : Below w.heap.size w (w.alloc (.cells #[] 3)) := (Below.refl _ _).alloc (Nat.le_refl _) _
  have hO0 := Owns.empty w (Nat.le_refl w.heap.size)
  have hol := ocs_length
  have HG := Lib.hid (fun i (h : i < ocs.length) => ocs_get h)
  have HH := Lib.hid (fun k => @wiTo_hit n k)
  have HM := Lib.hid (fun k => @wiTo_miss n k)
  have HE : Hid (wi n = wiTo n ocs.length) := Lib.hid rfl
  have HLn := Lib.hid (wiTo_length n)
  have HZ : Hid (wiTo n 0 = []) := Lib.hid rfl
  generalize wi n = WI at *
  generalize wiTo n = WT at *
  go_enter Tryz.func146, Tryz.ntmps146
  go_wp2_with fail
  refine (l4All_any _).mono ?_
  rintro e w2 ⟨v2, rfl, hO2, hs2⟩
  have hOo := hO0.kept hs2
  have hb2 := hb1.trans (hs2.mono hb1.size)
  generalize ocs = S at *
  obtain ⟨a2, c2, rfl, hR2, hl2, hc2⟩ := hO2.shape
  have hsz1 : (w.alloc (.cells #[] 3)).heap.size = w.heap.size + 1 := by simp
  rw [hsz1] at hO2
  have HO2 := Lib.hid hO2
  clear hO2 hR2 hsz1
  go_wp2_with fail
  go_loopw [3, 5] (fun v x wr => ∃ k : Nat, k ≤ S.length ∧ x = .int .i64 (k : Int) ∧ Owns w.heap.size wr v (WT k) ∧ Owns (w.heap.size + 1) wr (.slice a2 S.length c2) S ∧
      (∀ i, v.ownBlock = some i → (Value.slice a2 S.length c2).ownBlock ≠ some i) ∧ Below w.heap.size w wr)
    (fun _ x _ => (S.length - (intOf x).toNat))
  case atStart =>
    refine ⟨0, by omega, rfl, by rw [HZ.out]; exact hOo, HO2.out, fun i hi hj => ?_, hb2⟩
    have := (HO2.out.lt i hj).1
    simp [Value.ownBlock] at hi
    omega
  case round =>
    obtain ⟨k, hk, rfl, hO, hOS, hne, hbel⟩ := hrel
    have hlen := HLn.out k
    have hsz := hbel.size
    by_cases hlt : k < S.length
    · have hki : (k : Int) < (S.length : Int) := by omega
      obtain ⟨b, off, ha, hb, hc⟩ := hOS.reads.1 k hlt
      obtain ⟨g0, g1⟩ := HG.out k hlt
      have H1 := Lib.hid (HH.out k)
      have H2 := Lib.hid (HM.out k)
      have HOS := Lib.hid hOS
      have HNE := Lib.hid hne
      clear hOS hne
      have hc' := hc
      rw [getD_get hlt] at g0 g1 H1 H2 hc'
      clear hc
      subst ha
      generalize S[k] = y at *
      obtain ⟨y, rfl⟩ := Int.eq_ofNat_of_zero_le g0
      rw [Int.toNat_natCast] at H1 H2
      have hand : bits .and .i64 (y : Int) (n : Int) = ((y &&& n : Nat) : Int) := i64_and y n (by omega) (by omega)
      by_cases hw : y &&& n = n
      · have hbq : (bits .and .i64 (y : Int) (n : Int) == (n : Int)) = true := by rw [hand, hw]; exact beq_self_eq_true _
        have D := Lib.hid (H1.out hw)
        clear hw H1 H2 hand
        go_wp2_with (first | (at_builtin; refine wpList_app2 rfl _ _ rfl w.heap.size _ rfl hO rfl (by omega) (by omega) ?_; intro v' w' hO' hg' hat'))
        go_roundw
        case rel =>
          refine ⟨k + 1, by omega, by go_num, by rw [D.out]; exact hO', HOS.out.grown hg' (fun j hj e => HNE.out j e.symm hj), fun i hi hj => ?_, ?_⟩
          · rcases hat' with h | h
            · rw [h] at hi
              exact HNE.out i hi hj
            · rw [h] at hi
              simp at hi
              have := (HOS.out.lt i hj).2
              omega
          · exact hbel.grown hg' hsz (fun q hq => (hO.lt q hq).1)
        case measure => simp [intOf]; omega
      · have hbq : (bits .and .i64 (y : Int) (n : Int) == (n : Int)) = false := by
          rw [hand, beq_eq_false_iff_ne]
          exact fun h => hw (by exact_mod_cast h)
        have D := Lib.hid (H2.out hw)
        clear hw H1 H2 hand
        go_wp2_with fail
        go_roundw
        case rel => exact ⟨k + 1, by omega, by go_num, by rw [D.out]; exact hO, HOS.out, HNE.out, hbel⟩
        case measure => simp [intOf]; omega
    · go_wp2
      go_ret
      obtain rfl : k = S.length := by omega
      exact ⟨_, rfl, by rw [HE.out]; exact hO, hbel⟩

/-- What OctadThrough answers. -/
def octT (l : List Int) : Value := if diff l && (l.length == 5 && (wi (mk l l.length)).length == 1) then .tuple #[.int .i64 ((wi (mk l l.length)).getD 0 0), .bool true] else .tuple #[.int .i64 0, .bool false]
theorem specOctadThrough_any (a : Option Addr) (cap : Nat) (l : List Int) (w : World) (hl : l.length ≤ 9223372036854775807) (hr : Reads .i64 w a l) :
    Calls Tryz.prog 109 #[.slice a l.length cap] w fun e w' => e = .returned (octT l) ∧ Below w.heap.size w w' := by
  have CW := Lib.hid (specWordOf_any a cap l w hl hr)
  unfold wordOfV at CW
  cases hd : diff l
  · have HQ : Hid (octT l = .tuple #[.int .i64 0, .bool false]) := Lib.hid (by unfold octT; rw [hd]; rfl)
    rw [hd, if_neg (by decide)] at CW
    go_enter Tryz.func109, Tryz.ntmps109
    go_wp2_with fail
    refine (CW.out).mono ?_
    rintro e w' ⟨rfl, rfl⟩
    go_wp2_with fail
    go_ret2
    exact ⟨by rw [HQ.out]; rfl, Below.refl _ _⟩
  · rw [hd, if_pos rfl] at CW
    by_cases h5 : l.length = 5
    · have h5b : ((l.length : Int) != 5) = false := by rw [h5]; rfl
      have hmk := mk_lt ((okTo_iff l).2 hd)
      have HQ : Hid (octT l = if (wi (mk l l.length)).length == 1 then .tuple #[.int .i64 ((wi (mk l l.length)).getD 0 0), .bool true] else .tuple #[.int .i64 0, .bool false]) :=
        Lib.hid (by unfold octT; rw [hd, show (l.length == 5) = true by rw [beq_iff_eq]; exact h5, Bool.true_and, Bool.true_and])
      generalize octT l = O at *
      generalize mk l l.length = m at *
      generalize l.length = N at *
      have CL := Lib.hid (fun w => l4With_any (m : Int) w (by omega) (by omega))
      rw [Int.toNat_natCast] at CL
      have hb0 := Below.refl w.heap.size w
      generalize wi m = L at *
      clear h5
      go_enter Tryz.func109, Tryz.ntmps109
      go_wp2_with fail
      refine (CW.out).mono ?_
      rintro e w' ⟨rfl, rfl⟩
      go_wp2_with fail
      refine (CL.out _).mono ?_
      rintro e w1 ⟨v1, rfl, hO1, hs1⟩
      obtain ⟨a1, c1, rfl, hR1, hl1, hc1⟩ := hO1.shape
      have hb1 := hb0.trans (hs1.mono hb0.size)
      by_cases hL : L.length = 1
      · have hLb : ((L.length : Int) != 1) = false := by rw [hL]; rfl
        have hLb2 : (L.length == 1) = true := by rw [hL]; rfl
        rw [if_pos hLb2] at HQ
        obtain ⟨b, off, ha, hb, hcc⟩ := hR1 0 (by omega)
        have hL0 : 0 < L.length := by omega
        have hL0i : (0 : Int) < (L.length : Int) := by omega
        subst ha
        rw [Nat.add_zero] at hcc
        generalize L.getD 0 0 = y at *
        clear hL hLb2 hO1
        generalize L.length = M at *
        go_wp2_with fail
        go_ret2
        exact ⟨by rw [HQ.out]; rfl, hb1⟩
      · have hLb : ((L.length : Int) != 1) = true := by rw [bne_iff_ne]; omega
        have hLb2 : (L.length == 1) = false := by rw [beq_eq_false_iff_ne]; exact hL
        rw [hLb2, if_neg (by decide)] at HQ
        clear hL hLb2 hO1
        go_wp2_with fail
        go_ret2
        exact ⟨by rw [HQ.out]; rfl, hb1⟩
    · have h5b : ((l.length : Int) != 5) = true := by rw [bne_iff_ne]; omega
      have HQ : Hid (octT l = .tuple #[.int .i64 0, .bool false]) := Lib.hid (by unfold octT; rw [show (l.length == 5) = false by rw [beq_eq_false_iff_ne]; exact h5, Bool.false_and, Bool.and_false]; rfl)
      go_enter Tryz.func109, Tryz.ntmps109
      go_wp2_with fail
      refine (CW.out).mono ?_
      rintro e w' ⟨rfl, rfl⟩
      go_wp2_with fail
      go_ret2
      exact ⟨by rw [HQ.out]; rfl, Below.refl _ _⟩

end Go.Proofs.YtmgdcnibmifdeaaGreatDoor
