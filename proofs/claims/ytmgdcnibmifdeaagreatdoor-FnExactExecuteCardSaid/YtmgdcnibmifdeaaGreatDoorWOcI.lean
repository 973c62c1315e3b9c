/- Contracts of the program's octads: octads, octadsWith, OctadThrough. -/
import Derived.Test.YtmgdcnibmifdeaaGreatDoorWCodeOf
import Derived.Test.YtmgdcnibmifdeaaGreatDoorWSrt
import Derived.Test.YtmgdcnibmifdeaaGreatDoorWMark
import Derived.Test.YtmgdcnibmifdeaaGreatDoorWPm
import Derived.Test.YtmgdcnibmifdeaaGreatDoorStn
set_option linter.unusedVariables false
namespace Go.Proofs.YtmgdcnibmifdeaaGreatDoor
open Go.RowKit Res

theorem octadsWith1_any (x n bx : Nat) (w : World) (hx : x < 16777216) (hn : n < 16777216) (hbx : w.cell? ⟨bx, 0, none⟩ = some (.int .i64 (n : Int))) :
    Calls Tryz.prog 137 #[.int .i64 (x : Int), .pointer (some ⟨bx, 0, none⟩)] w fun e w' => e = .returned (.bool (decide (x &&& n = n))) ∧ w = w' := by
  have ha : bits .and .i64 (x : Int) (n : Int) = ((x &&& n : Nat) : Int) := i64_and _ _ (by omega) (by omega)
  have hd : (((x &&& n : Nat) : Int) == (n : Int)) = decide (x &&& n = n) := by
    rw [Bool.eq_iff_iff, beq_iff_eq, decide_eq_true_eq]
    omega
  have HD := Lib.hid hd
  clear hd
  generalize x &&& n = y at *
  go_enter Tryz.func137, Tryz.ntmps137
  go_wp2
  go_ret
  exact ⟨by rw [← HD.out]; rfl, rfl⟩

theorem octadsW_any (bx n : Nat) (w : World) (hn : n < 16777216) (hbl : bx < w.heap.size) (hbx : w.cell? ⟨bx, 0, none⟩ = some (.int .i64 (n : Int))) :
    Calls Tryz.prog 136 #[.func (.func 137) #[] #[.pointer (some ⟨bx, 0, none⟩)]] w fun e w' => ∃ v, e = .returned v ∧ Owns w.heap.size w' v (wi n) ∧ Below w.heap.size w w' := by
  have hb1 : Below w.heap.size w (w.alloc (.cells #[] 3)) := (Below.refl _ _).alloc (Nat.le_refl _) _
  have hO0 := Owns.empty w (Nat.le_refl w.heap.size)
  have hsz1 : (w.alloc (.cells #[] 3)).heap.size = w.heap.size + 1 := by simp
  have HG := Lib.hid (fun k hk => cdsTo_get 4096 k hk)
  have HN := Lib.hid (cdsTo_length 4096)
  have HH := Lib.hid (fun k => @wmTo_hit n k)
  have HM := Lib.hid (fun k => @wmTo_miss n k)
  have HE : Hid (wi n = srt (wmTo n 4096)) := Lib.hid (wi_srt n)
  have HLn := Lib.hid (wmTo_length n)
  have HZ : Hid (wmTo n 0 = []) := Lib.hid rfl
  generalize wi n = WI at *
  generalize wmTo n = WT at *
  go_enter Tryz.func136, Tryz.ntmps136
  go_wp2_with fail
  refine (words_any _).mono ?_
  rintro e w2 ⟨v2, rfl, hO2, hs2⟩
  have hOo := hO0.kept hs2
  have hb2 := hb1.trans (hs2.mono hb1.size)
  have hS : (cdsTo 4096).length = 4096 := HN.out
  generalize cdsTo 4096 = S at *
  obtain ⟨a2, c2, rfl, hR2, hl2, hc2⟩ := hO2.shape
  rw [hsz1] at hO2
  have HO2 := Lib.hid hO2
  have hSi : (S.length : Int) ≤ 4096 := by omega
  clear hO2 hR2 hsz1 hS
  go_wp2_with fail
  go_loopw [3, 9] (fun v x wr => ∃ k : Nat, k ≤ S.length ∧ x = .int .i64 (k : Int) ∧ Owns w.heap.size wr v (WT k) ∧ Owns (w.heap.size + 1) wr (.slice a2 S.length c2) S ∧
      (∀ i, v.ownBlock = some i → (Value.slice a2 S.length c2).ownBlock ≠ some i) ∧ (∃ g c, v = .slice (some ⟨g, 0, none⟩) (WT k).length c) ∧ Below w.heap.size w wr)
    (fun _ x _ => (S.length - (intOf x).toNat))
  case atStart =>
    refine ⟨0, by omega, rfl, by rw [HZ.out]; exact hOo, HO2.out, fun i hi hj => ?_, ⟨_, _, by rw [HZ.out]; rfl⟩, hb2⟩
    have := (HO2.out.lt i hj).1
    simp [Value.ownBlock] at hi
    omega
  case round =>
    obtain ⟨k, hk, rfl, hO, hOS, hne, ⟨gv, cv, rfl⟩, hbel⟩ := hrel
    have hlen := HLn.out k
    have hsz := hbel.size
    by_cases hlt : k < S.length
    · have hki : (k : Int) < (S.length : Int) := by omega
      obtain ⟨b, off, ha, hb, hc⟩ := hOS.reads.1 k hlt
      rw [HG.out k (by have := HN.out; omega)] at hc
      have hcl := code_lt (m := k) (by have := HN.out; omega)
      have CW := Lib.hid (fun w => weight_any ((code k : Nat) : Int) w (by omega) (by omega))
      rw [Int.toNat_natCast] at CW
      have H1 := Lib.hid (HH.out k)
      have H2 := Lib.hid (HM.out k)
      have HOS := Lib.hid hOS
      have HNE := Lib.hid hne
      clear hOS hne
      subst ha
      have hbx' : wr.cell? ⟨bx, 0, none⟩ = some (.int .i64 (n : Int)) := by rw [hbel.cell (p := ⟨bx, 0, none⟩) hbl]; exact hbx
      have CL := Lib.hid (octadsWith1_any (code k) n bx wr (by omega) hn hbx')
      by_cases h8 : wt (code k) = 8
      · have hb8 : (((wt (code k) : Nat) : Int) == 8) = true := by rw [h8]; rfl
        by_cases hw : code k &&& n = n
        · rw [show decide (code k &&& n = n) = true by simpa using hw] at CL
          have D := Lib.hid (H1.out ⟨h8, hw⟩)
          clear hw h8 H1 H2
          generalize wt (code k) = t at *
          generalize code k = y at *
          go_wp2_with fail
          go_wp2_with fail
          refine (CW.out _).mono ?_
          rintro e w' ⟨rfl, rfl⟩
          go_wp2_with fail
          refine CL.out.mono ?_
          rintro e w' ⟨rfl, rfl⟩
          go_wp2_with (first | (at_builtin; refine wpList_app2 rfl _ _ rfl w.heap.size _ rfl hO rfl (by omega) (by omega) ?_; intro v' w' hO' hg' hat'))
          go_roundw
          case rel =>
            obtain ⟨g', c', hv', -⟩ := hO'.head (by simp)
            refine ⟨k + 1, by omega, by go_num, by rw [D.out]; exact hO', HOS.out.grown hg' (fun j hj e => HNE.out j e.symm hj), fun i hi hj => ?_, ⟨g', c', by rw [D.out]; exact hv'⟩, ?_⟩
            · rcases hat' with h | h
              · rw [h] at hi
                exact HNE.out i hi hj
              · rw [h] at hi
                simp at hi
                have := (HOS.out.lt i hj).2
                omega
            · exact hbel.grown hg' hsz (fun q hq => (hO.lt q hq).1)
          case measure => simp [intOf]; omega
        · rw [show decide (code k &&& n = n) = false by simpa using hw] at CL
          have D := Lib.hid (H2.out (fun e => hw e.2))
          clear hw h8 H1 H2
          generalize wt (code k) = t at *
          generalize code k = y at *
          go_wp2_with fail
          go_wp2_with fail
          refine (CW.out _).mono ?_
          rintro e w' ⟨rfl, rfl⟩
          go_wp2_with fail
          refine CL.out.mono ?_
          rintro e w' ⟨rfl, rfl⟩
          go_wp2_with fail
          go_roundw
          case rel => exact ⟨k + 1, by omega, by go_num, by rw [D.out]; exact hO, HOS.out, HNE.out, ⟨_, _, by rw [D.out]⟩, hbel⟩
          case measure => simp [intOf]; omega
      · have hb8 : (((wt (code k) : Nat) : Int) == 8) = false := by rw [beq_eq_false_iff_ne]; omega
        have D := Lib.hid (H2.out (fun e => h8 e.1))
        clear h8 H1 H2
        generalize wt (code k) = t at *
        generalize code k = y at *
        go_wp2_with fail
        go_wp2_with fail
        refine (CW.out _).mono ?_
        rintro e w' ⟨rfl, rfl⟩
        go_wp2_with fail
        go_roundw
        case rel => exact ⟨k + 1, by omega, by go_num, by rw [D.out]; exact hO, HOS.out, HNE.out, ⟨_, _, by rw [D.out]⟩, hbel⟩
        case measure => simp [intOf]; omega
    · have hkl : k = 4096 := by have := HN.out; omega
      have hll : (WT k).length ≤ 4096 := by omega
      have CS := Lib.hid (sorted_any hO (by omega))
      have HEk : WI = srt (WT k) := by rw [hkl]; exact HE.out
      rw [← HEk] at CS
      have HL : Hid (WI.length = (WT k).length) := Lib.hid (by rw [HEk, srt_length])
      have hkS : (S.length : Int) ≤ (k : Int) := by omega
      clear hk hlt hlen hll hSi HE HEk HH HM HLn HZ HG HN
      generalize WT k = T at *
      generalize T.length = N at *
      clear hkl
      go_wp2_with fail
      refine CS.out.mono ?_
      rintro e w3 ⟨rfl, hO3, hg3⟩
      go_wp2_with fail
      go_ret
      exact ⟨_, rfl, hO3, hbel.grown hg3 hsz (fun q hq => (hO.lt q hq).1)⟩

theorem octadsWith_any (n : Nat) (w : World) (hn : n < 16777216) :
    Calls Tryz.prog 88 #[.int .i64 (n : Int)] w fun e w' => ∃ v, e = .returned v ∧ Owns w.heap.size w' v (wi n) ∧ Below w.heap.size w w' := by
  have hb1 : Below w.heap.size w (w.alloc (.cells #[.int .i64 (n : Int)] 3)) := (Below.refl _ _).alloc (Nat.le_refl _) _
  have hcell : (w.alloc (.cells #[.int .i64 (n : Int)] 3)).cell? ⟨w.heap.size, 0, none⟩ = some (.int .i64 (n : Int)) := cell_new _ _ _
  have hsz : (w.alloc (.cells #[.int .i64 (n : Int)] 3)).heap.size = w.heap.size + 1 := by simp
  have C := Lib.hid (octadsW_any w.heap.size n _ hn (by rw [hsz]; omega) hcell)
  have HSZ := Lib.hid hsz
  clear hsz
  generalize wi n = L at *
  go_enter Tryz.func88, Tryz.ntmps88
  go_wp2_with fail
  refine C.out.mono ?_
  rintro e w2 ⟨v2, rfl, hO2, hs2⟩
  go_wp2_with fail
  go_ret
  exact ⟨_, rfl, hO2.mono hb1.size, hb1.trans (hs2.mono hb1.size)⟩

/-- What OctadThrough answers at five places. -/
theorem implOctadThrough_ok (a : Option Addr) (cap : Nat) (l : List Int) (w : World) (hr : Reads .i64 w a l) (hd : diff l = true) (h5 : l.length = 5) (o : Nat) (ho : wi (mk l 5) = [((o : Nat) : Int)]) :
    Calls Tryz.prog 59 #[.slice a l.length cap] w fun e w' => e = .returned (.tuple #[.int .i64 (o : Int), .bool true]) ∧ Below w.heap.size w w' := by
  have CW := Lib.hid (implWordOf_any a cap l w (by omega) hr)
  unfold wordOfV at CW
  rw [hd, if_pos rfl, h5] at CW
  have hok := (okTo_iff l).2 hd
  rw [h5] at hok
  have hmk := mk_lt hok
  have h5b : ((l.length : Int) != 5) = false := by rw [h5]; rfl
  have C2 := Lib.hid (fun w => octadsWith_any (mk l 5) w hmk)
  rw [ho] at C2
  have hb0 := Below.refl w.heap.size w
  generalize mk l 5 = m at *
  rw [h5]
  clear h5 hr
  go_enter Tryz.func59, Tryz.ntmps59
  go_wp2_with fail
  refine (CW.out).mono ?_
  rintro e w' ⟨rfl, rfl⟩
  go_wp2_with fail
  refine (C2.out _).mono ?_
  rintro e w1 ⟨v1, rfl, hO1, hs1⟩
  obtain ⟨a1, c1, rfl, hR1, hl1, hc1⟩ := hO1.shape
  have hb1 := hb0.trans (hs1.mono hb0.size)
  obtain ⟨b, off, ha, hb, hcc⟩ := hR1 0 (by simp)
  subst ha
  rw [Nat.add_zero] at hcc
  have hcc : w1.cell? ⟨b, off, none⟩ = some (.int .i64 (o : Int)) := hcc
  go_wp2_with fail
  go_ret2
  exact ⟨rfl, hb1⟩

end Go.Proofs.YtmgdcnibmifdeaaGreatDoor
