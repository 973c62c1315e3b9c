/- Contracts of SextetOf and OctadMeet. -/
import Derived.Test.YtmgdcnibmifdeaaGreatDoorWOcI
import Derived.Test.YtmgdcnibmifdeaaGreatDoorWOcs
import Derived.Test.YtmgdcnibmifdeaaGreatDoorWOct
import Derived.Test.YtmgdcnibmifdeaaGreatDoorNr
set_option linter.unusedVariables false
namespace Go.Proofs.YtmgdcnibmifdeaaGreatDoor
open Go.RowKit Res

theorem i64_less (a b : Nat) (ha : a < 9223372036854775808) (hb : b < 9223372036854775808) : bits .andNot .i64 (a : Int) (b : Int) = ((a ^^^ (a &&& b) : Nat) : Int) := by
  show IntKind.i64.wrap ((BitVec.ofInt 64 (a : Int) &&& ~~~ BitVec.ofInt 64 (b : Int)).toNat : Int) = _
  have e : ∀ x y : BitVec 64, x &&& ~~~ y = x ^^^ (x &&& y) := fun x y => by
    apply BitVec.eq_of_getLsbD_eq
    intro i hi
    simp only [BitVec.getLsbD_and, BitVec.getLsbD_xor, BitVec.getLsbD_not]
    cases x.getLsbD i <;> cases y.getLsbD i <;> simp [hi]
  rw [e, BitVec.toNat_xor, BitVec.toNat_and, bit_ofInt a ha, bit_ofInt b hb]
  exact wrap_nat _ (Nat.xor_lt_two_pow (n := 63) ha (Nat.lt_of_le_of_lt Nat.and_le_left ha))

/-- The two lists of the call's own: one grows, the other is read. -/
theorem sextet_any (n : Nat) (w : World) (hn : n < 16777216) :
    Calls Tryz.prog 96 #[.int .i64 (n : Int)] w fun e w' => ∃ v, e = .returned v ∧ Owns w.heap.size w' v (sxL n) ∧ Below w.heap.size w w' := by
  have hb1 : Below w.heap.size w (w.alloc (.cells #[.int .i64 (n : Int)] 3)) := (Below.refl _ _).alloc (Nat.le_refl _) _
  have hO0 : Owns w.heap.size (w.alloc (.cells #[.int .i64 (n : Int)] 3)) (.slice (some ⟨w.heap.size, 0, none⟩) 1 1) [(n : Int)] := Owns.lit w [(n : Int)] (Nat.le_refl _) (by simp)
  have hsz1 : (w.alloc (.cells #[.int .i64 (n : Int)] 3)).heap.size = w.heap.size + 1 := by simp
  have HG := Lib.hid (fun i (h : i < (wi n).length) => wi_get h)
  have HSU := Lib.hid (sxTo_succ n (wi n))
  have HE : Hid (sxL n = srt (sxTo n (wi n) (wi n).length)) := Lib.hid rfl
  have HLn := Lib.hid (sxTo_length n (wi n))
  have HZ : Hid (sxTo n (wi n) 0 = [(n : Int)]) := Lib.hid rfl
  have hwl := wi_length_le n
  generalize sxL n = SX at *
  generalize sxTo n (wi n) = ST at *
  go_enter Tryz.func96, Tryz.ntmps96
  go_wp2_with fail
  refine (octadsWith_any n _ hn).mono ?_
  rintro e w2 ⟨v2, rfl, hO2, hs2⟩
  have hOo := hO0.kept hs2
  have hb2 := hb1.trans (hs2.mono hb1.size)
  generalize wi n = S at *
  obtain ⟨a2, c2, rfl, hR2, hl2, hc2⟩ := hO2.shape
  rw [hsz1] at hO2
  have HO2 := Lib.hid hO2
  clear hO2 hR2 hsz1
  go_wp2_with fail
  go_loopw [3, 11] (fun v x wr => ∃ k : Nat, k ≤ S.length ∧ x = .int .i64 (k : Int) ∧ (∃ g c, v = .slice (some ⟨g, 0, none⟩) (ST k).length c ∧ Owns w.heap.size wr (.slice (some ⟨g, 0, none⟩) (ST k).length c) (ST k) ∧
      (Value.slice a2 S.length c2).ownBlock ≠ some g) ∧ Owns (w.heap.size + 1) wr (.slice a2 S.length c2) S ∧ Below w.heap.size w wr)
    (fun _ x _ => (S.length - (intOf x).toNat))
  case atStart =>
    refine ⟨0, by omega, rfl, ⟨_, _, by rw [HZ.out]; rfl, by rw [HZ.out]; exact hOo, fun hj => ?_⟩, HO2.out, hb2⟩
    have := (HO2.out.lt _ hj).1
    omega
  case round =>
    obtain ⟨k, hk, rfl, ⟨gv, cv, rfl, hO, hne⟩, hOS, hbel⟩ := hrel
    have hlen := HLn.out k
    have hsz := hbel.size
    by_cases hlt : k < S.length
    · have hki : (k : Int) < (S.length : Int) := by omega
      obtain ⟨b, off, ha, hb, hc⟩ := hOS.reads.1 k hlt
      obtain ⟨o, ho, hoc, how⟩ := HG.out k hlt
      have D := Lib.hid (HSU.out k)
      rw [ho] at hc D
      rw [Int.toNat_natCast] at D
      have hol := hoc.1
      have hx : bits .andNot .i64 (o : Int) (n : Int) = ((o ^^^ n : Nat) : Int) := by
        rw [i64_less _ _ (by omega) (by omega), how]
      have HOS := Lib.hid hOS
      have HNE := Lib.hid hne
      clear hOS hne how hoc ho
      subst ha
      generalize o ^^^ n = z at *
      go_wp2_with (first | (at_builtin; refine wpList_app2 rfl _ _ rfl w.heap.size _ rfl hO rfl (by omega) (by omega) ?_; intro v' w' hO' hg' hat'))
      go_roundw
      case rel =>
        obtain ⟨g', c', hv', hB', -⟩ := hO'.head (by simp)
        subst hv'
        rw [← D.out] at hO'
        refine ⟨k + 1, by omega, by go_num, ⟨g', c', by rw [D.out], by rw [D.out] at hO' ⊢; exact hO', fun hj => ?_⟩, HOS.out.grown hg' (fun j hj e => HNE.out (hj.trans (by rw [e]; rfl))), hbel.grown hg' hsz (fun q hq => (hO.lt q hq).1)⟩
        rcases hat' with h | h
        · have e : some g' = some gv := h
          exact HNE.out (hj.trans e)
        · have hlt2 := (HOS.out.lt _ hj).2
          have e : some g' = some (wr.heap.size + 1) := h
          simp at e
          omega
      case measure => simp [intOf]; omega
    · obtain hkl : k = S.length := by omega
      have hEk : SX = srt (ST k) := by rw [hkl]; exact HE.out
      have CS := Lib.hid (sorted_any hO (by omega))
      rw [← hEk] at CS
      have hkS : (S.length : Int) ≤ (k : Int) := by omega
      clear hk hlt hlen HE HSU HLn HZ HG hEk hkl hwl
      generalize ST k = T at *
      generalize T.length = N at *
      go_wp2_with fail
      refine CS.out.mono ?_
      rintro e w3 ⟨rfl, hO3, hg3⟩
      go_wp2_with fail
      go_ret
      exact ⟨_, rfl, hO3, hbel.grown hg3 hsz (fun q hq => (hO.lt q hq).1)⟩

theorem tetradOk_any (n : Nat) (w : World) (hn : n < 16777216) :
    Calls Tryz.prog 95 #[.int .i64 (n : Int)] w fun e w' => e = .returned (.bool (wt n == 4)) ∧ w = w' := by
  have hin : inB (n : Int) 0 16777215 = true := inB_true (by omega) (by omega)
  have CW := Lib.hid (fun w => weight_any (n : Int) w (by omega) (by omega))
  rw [Int.toNat_natCast] at CW
  generalize wt n = t at *
  go_enter Tryz.func95, Tryz.ntmps95
  go_wp2_with fail
  refine (implWordValid_any _ _).mono ?_
  rintro e w' ⟨rfl, rfl⟩
  go_wp2_with fail
  refine (CW.out _).mono ?_
  rintro e w' ⟨rfl, rfl⟩
  go_wp2_with fail
  go_ret
  refine ⟨ret_bool ?_, rfl⟩
  rw [Bool.eq_iff_iff, beq_iff_eq, beq_iff_eq]
  omega
theorem implSextetOf_ok (n : Nat) (w : World) (hn : n < 16777216) (h : wt n = 4) :
    Calls Tryz.prog 65 #[.int .i64 (n : Int)] w fun e w' => ∃ v, e = .returned (.tuple #[v, .bool true]) ∧ Owns w.heap.size w' v (sxL n) ∧ Below w.heap.size w w' := by
  have CT := Lib.hid (tetradOk_any n w hn)
  rw [show (wt n == 4) = true by rw [h]; rfl] at CT
  clear h
  go_enter Tryz.func65, Tryz.ntmps65
  go_wp2_with fail
  refine (CT.out).mono ?_
  rintro e w' ⟨rfl, rfl⟩
  go_wp2_with fail
  refine (sextet_any n _ hn).mono ?_
  rintro e w1 ⟨v, rfl, hO, hs⟩
  go_wp2_with fail
  go_ret2
  exact ⟨v, rfl, hO, hs⟩
theorem implSextetOf_no (n : Nat) (w : World) (hn : n < 16777216) (h : wt n ≠ 4) :
    Calls Tryz.prog 65 #[.int .i64 (n : Int)] w fun e w' => ∃ v, e = .returned (.tuple #[v, .bool false]) ∧ Owns w.heap.size w' v [] ∧ Below w.heap.size w w' := by
  have CT := Lib.hid (tetradOk_any n w hn)
  rw [show (wt n == 4) = false by rw [beq_eq_false_iff_ne]; exact h] at CT
  clear h
  go_enter Tryz.func65, Tryz.ntmps65
  go_wp2_with fail
  refine (CT.out).mono ?_
  rintro e w' ⟨rfl, rfl⟩
  go_wp2_with fail
  go_ret2
  exact ⟨_, rfl, Owns.empty w (Nat.le_refl _), (Below.refl _ _).alloc (Nat.le_refl _) _⟩

theorem implOctadMeet_no (n : Nat) (w : World) (h : octB (n : Int) = false) :
    Calls Tryz.prog 66 #[.int .i64 (n : Int)] w fun e w' => ∃ v, e = .returned (.tuple #[v, .bool false]) ∧ Owns w.heap.size w' v [] ∧ Below w.heap.size w w' := by
  have hb0 := Below.refl w.heap.size w
  have CT := Lib.hid (fun w => implOctadIn_any (n : Int) w)
  rw [h] at CT
  clear h
  go_enter Tryz.func66, Tryz.ntmps66
  go_wp2_with fail
  refine (CT.out _).mono ?_
  rintro e w1 ⟨rfl, hs1⟩
  have hb1 := hb0.trans (hs1.mono hb0.size)
  go_wp2_with fail
  go_ret2
  exact ⟨_, rfl, Owns.empty w1 hb1.size, hb1.alloc hb1.size _⟩
theorem implOctadMeet_ok (n : Nat) (w : World) (hn : n < 16777216) (h : octB (n : Int) = true) :
    Calls Tryz.prog 66 #[.int .i64 (n : Int)] w fun e w' => ∃ v, e = .returned (.tuple #[v, .bool true]) ∧ Owns w.heap.size w' v (omL n) ∧ Below w.heap.size w w' := by
  have hb0 := Below.refl w.heap.size w
  have CT := Lib.hid (fun w => implOctadIn_any (n : Int) w)
  rw [h] at CT
  clear h
  have CO := Lib.hid (fun w => octadsWith_any 0 w (by omega))
  rw [wi_zero] at CO
  have HG := Lib.hid (fun i (h : i < ocs.length) => ocs_get h)
  have HW := Lib.hid (fun i => wt_and_le (ocs.getD i 0).toNat n)
  have HWl := Lib.hid (fun i (h : i < ocs.length) => oct_meet_le n h)
  have HS : Hid (∀ k, omTo ocs n (k + 1) = (omTo ocs n k).set (wt ((ocs.getD k 0).toNat &&& n)) ((omTo ocs n k).getD (wt ((ocs.getD k 0).toNat &&& n)) 0 + 1)) := Lib.hid (fun k => rfl)
  have HL := Lib.hid (omTo_length ocs n)
  have HB := Lib.hid (omTo_bd ocs n)
  have HE : Hid (omL n = omTo ocs n ocs.length) := Lib.hid rfl
  have HZ : Hid (omTo ocs n 0 = List.replicate 9 0) := Lib.hid rfl
  have hol := ocs_length
  generalize omL n = OM at *
  generalize omTo ocs n = OT at *
  go_enter Tryz.func66, Tryz.ntmps66
  go_wp2_with fail
  refine (CT.out _).mono ?_
  rintro e w1 ⟨rfl, hs1⟩
  have hb1 := hb0.trans (hs1.mono hb0.size)
  go_wp2_with (first | (at_builtin; fail) | (refine wpList_mk rfl _ _ rfl w1.heap.size 9 rfl rfl rfl rfl (by omega) (Nat.le_refl _) ?_; intro w2 hO2 hs2 hlt2))
  have hb2 := hb1.trans (hs2.mono hb1.size)
  go_wp2_with fail
  refine (CO.out _).mono ?_
  rintro e w3 ⟨v3, rfl, hO3, hs3⟩
  have hb3 := hb2.trans (hs3.mono hb2.size)
  have hO23 := hO2.kept hs3
  generalize ocs = S at *
  obtain ⟨a3, c3, rfl, hR3, hl3, hc3⟩ := hO3.shape
  have HO3 := Lib.hid hO3
  clear hO3 hR3
  have hg0 := hb1.size
  go_wp2_with fail
  go_loopw [14] (fun x wr => ∃ k : Nat, k ≤ S.length ∧ x = .int .i64 (k : Int) ∧ Owns w.heap.size wr (.slice (some ⟨w1.heap.size, 0, none⟩) 9 9) (OT k) ∧ Owns w2.heap.size wr (.slice a3 S.length c3) S ∧ Below w.heap.size w wr)
    (fun x _ => (S.length - (intOf x).toNat))
  case atStart => exact ⟨0, by omega, rfl, by rw [HZ.out]; exact hO23.mono hg0, HO3.out, hb3⟩
  case round =>
    obtain ⟨k, hk, rfl, hO, hOS, hbel⟩ := hrel
    have hsz := hbel.size
    by_cases hlt : k < S.length
    · have hki : (k : Int) < (S.length : Int) := by omega
      obtain ⟨b, off, ha, hb, hc⟩ := hOS.reads.1 k hlt
      obtain ⟨g0, g1⟩ := HG.out k hlt
      have hw8 := HWl.out k hlt
      have D := Lib.hid (HS.out k)
      have HOS := Lib.hid hOS
      clear hOS
      subst ha
      generalize S.getD k 0 = y at *
      obtain ⟨y, rfl⟩ := Int.eq_ofNat_of_zero_le g0
      rw [Int.toNat_natCast] at D hw8
      have hand : bits .and .i64 (y : Int) (n : Int) = ((y &&& n : Nat) : Int) := i64_and y n (by omega) (by omega)
      have hal : y &&& n ≤ y := Nat.and_le_left
      have CW := Lib.hid (fun w => weight_any ((y &&& n : Nat) : Int) w (by omega) (by omega))
      rw [Int.toNat_natCast] at CW
      generalize wt (y &&& n) = j at *
      generalize y &&& n = z at *
      have hj9 : (j : Int) < 9 := by omega
      obtain ⟨hcell, hfz⟩ := hO.at j (by rw [HL.out]; omega)
      obtain ⟨b0, b1⟩ := HB.out k j
      have hstore := hO.store j ((OT k).getD j 0 + 1)
      obtain ⟨hO', hg'⟩ := hstore
      generalize (OT k).getD j 0 = q at *
      have hw1 : IntKind.i64.wrap (q + 1) = q + 1 := IntWalk.i64_in _ (by omega)
      go_wp2_with fail
      go_wp2_with fail
      refine (CW.out _).mono ?_
      rintro e w' ⟨rfl, rfl⟩
      go_wp2_with fail
      go_roundw
      case rel =>
        refine ⟨k + 1, by omega, by go_num, by rw [D.out]; exact hO', HOS.out.grown hg' (fun j hj e => ?_), hbel.grown hg' hsz (fun q hq => by simp at hq; omega)⟩
        have h1 := (HOS.out.lt j hj).1
        simp at e
        omega
      case measure => simp [intOf]; omega
    · obtain rfl : k = S.length := by omega
      rw [← HE.out] at hO
      have hki : ¬ (S.length : Int) < (S.length : Int) := by omega
      go_wp2
      go_ret2
      exact ⟨_, rfl, hO, hbel⟩

end Go.Proofs.YtmgdcnibmifdeaaGreatDoor
