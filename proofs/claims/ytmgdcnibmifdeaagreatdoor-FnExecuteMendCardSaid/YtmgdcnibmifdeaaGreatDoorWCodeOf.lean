/- Contracts of the program's table of columns and of its words of the code. -/
import Derived.Test.YtmgdcnibmifdeaaGreatDoorWHex
import Derived.Test.YtmgdcnibmifdeaaGreatDoorWCdIn
import Derived.Test.YtmgdcnibmifdeaaGreatDoorCdLin
import Derived.Test.YtmgdcnibmifdeaaGreatDoorMk
import Derived.StillTailTactics
set_option linter.unusedVariables false
namespace Go.Proofs.YtmgdcnibmifdeaaGreatDoor
open Go.RowKit Res

theorem fill_uniqB : ∀ n, n < 16 → ∀ s, s < 4 → ∀ p, p < 2 → ∀ f, f < 2 → (Nat.beq (n % 2) f && (Nat.beq (wt n % 2) p && Nat.beq (sc n) s)) = Nat.beq n (fill s p f) := by decide +kernel
theorem fill_uniq (n : Nat) (hn : n < 16) (s : Nat) (hs : s < 4) (p : Nat) (hp : p < 2) (f : Nat) (hf : f < 2) : ((n % 2 = f ∧ wt n % 2 = p ∧ sc n = s) ↔ n = fill s p f) := by
  have h := fill_uniqB n hn s hs p hp f hf
  rw [Bool.eq_iff_iff, Bool.and_eq_true, Bool.and_eq_true, Nat.beq_eq, Nat.beq_eq, Nat.beq_eq, Nat.beq_eq] at h
  exact h

theorem rowsWith_any (s p f : Nat) (w : World) (hs : s < 4) (hp : p < 2) (hf : f < 2) :
    Calls Tryz.prog 72 #[.int .i64 (s : Int), .int .i64 (p : Int), .int .i64 (f : Int)] w fun e w' => e = .returned (.int .i64 (fill s p f : Nat)) ∧ w = w' := by
  have HF := Lib.hid (fun n (h : n < 16) => fill_uniq n h s hs p hp f hf)
  have hfl := fill_lt s hs p hp f hf
  generalize fill s p f = F at *
  go_enter Tryz.func72, Tryz.ntmps72
  go_wp2
  go_loop [8] (fun x => ∃ k : Nat, k ≤ F ∧ x = .int .i64 (k : Int)) (fun x => (16 - (intOf x).toNat))
  case atStart => exact ⟨0, by omega, rfl⟩
  case round =>
    obtain ⟨k, hk, rfl⟩ := hrel
    have hk16 : k < 16 := by omega
    have hki : (k : Int) < 16 := by omega
    have hand : bits .and .i64 (k : Int) 1 = ((k % 2 : Nat) : Int) := by
      rw [show (1 : Int) = ((1 : Nat) : Int) from rfl, i64_and _ _ (by omega) (by omega), Nat.and_one_is_mod]
    have CW := Lib.hid (fun w => weight_any (k : Int) w (by omega) (by omega))
    have CS := Lib.hid (fun w => score_any (k : Int) w (by omega) (by omega))
    rw [Int.toNat_natCast] at CW CS
    have hu := HF.out k hk16
    by_cases h1 : k % 2 = f
    · have b1 : (((k % 2 : Nat) : Int) == (f : Int)) = true := by rw [h1]; exact beq_self_eq_true _
      by_cases h2 : wt k % 2 = p
      · have b2 : (((wt k : Nat) : Int) % 2 == (p : Int)) = true := by rw [beq_iff_eq]; omega
        have b2t : (((wt k : Nat) : Int).tmod 2 == (p : Int)) = true := by rw [beq_iff_eq, Int.tmod_eq_emod_of_nonneg (by omega)]; omega
        by_cases h3 : sc k = s
        · have b3 : (((sc k : Nat) : Int) == (s : Int)) = true := by rw [h3]; exact beq_self_eq_true _
          have hkF := Lib.hid (hu.1 ⟨h1, h2, h3⟩)
          clear h1 h2 h3 hu
          generalize wt k = a at *
          generalize sc k = b at *
          generalize k % 2 = c at *
          go_wp2_with fail
          refine (CW.out _).mono ?_
          rintro e w' ⟨rfl, rfl⟩
          go_wp2_with fail
          refine (CS.out _).mono ?_
          rintro e w' ⟨rfl, rfl⟩
          go_wp2_with fail
          go_ret
          exact ⟨by rw [← hkF.out]; rfl, rfl⟩
        · have b3 : (((sc k : Nat) : Int) == (s : Int)) = false := by rw [beq_eq_false_iff_ne]; omega
          have hkF : k ≠ F := fun e => h3 (hu.2 e).2.2
          clear h1 h2 h3 hu
          generalize wt k = a at *
          generalize sc k = b at *
          generalize k % 2 = c at *
          go_wp2_with fail
          refine (CW.out _).mono ?_
          rintro e w' ⟨rfl, rfl⟩
          go_wp2_with fail
          refine (CS.out _).mono ?_
          rintro e w' ⟨rfl, rfl⟩
          go_wp2_with fail
          go_round
          case rel => exact ⟨k + 1, by omega, by go_num⟩
          case measure => simp [intOf]; omega
      · have b2 : (((wt k : Nat) : Int) % 2 == (p : Int)) = false := by rw [beq_eq_false_iff_ne]; omega
        have b2t : (((wt k : Nat) : Int).tmod 2 == (p : Int)) = false := by rw [beq_eq_false_iff_ne, Int.tmod_eq_emod_of_nonneg (by omega)]; omega
        have hkF : k ≠ F := fun e => h2 (hu.2 e).2.1
        clear h1 h2 hu
        generalize wt k = a at *
        generalize k % 2 = c at *
        go_wp2_with fail
        refine (CW.out _).mono ?_
        rintro e w' ⟨rfl, rfl⟩
        go_wp2_with fail
        go_round
        case rel => exact ⟨k + 1, by omega, by go_num⟩
        case measure => simp [intOf]; omega
    · have b1 : (((k % 2 : Nat) : Int) == (f : Int)) = false := by rw [beq_eq_false_iff_ne]; omega
      have hkF : k ≠ F := fun e => h1 (hu.2 e).1
      clear h1 hu
      generalize k % 2 = c at *
      go_wp2_with fail
      go_round
      case rel => exact ⟨k + 1, by omega, by go_num⟩
      case measure => simp [intOf]; omega

/-- Columns below c of the word of a message. -/
def cwTo (m : Nat) : Nat → Nat
  | 0 => 0
  | c + 1 => cwTo m c ||| colM m c * 2 ^ (4 * c)
theorem cwTo_lt (m c : Nat) : cwTo m c < 2 ^ (4 * c) := by
  induction c with
  | zero => simp [cwTo]
  | succ c ih =>
    have h := colM_lt m c
    simp only [cwTo]
    have e : (2 : Nat) ^ (4 * (c + 1)) = 16 * 2 ^ (4 * c) := by rw [show 4 * (c + 1) = 4 + 4 * c by omega, Nat.pow_add]
    apply Nat.or_lt_two_pow
    · rw [e]; generalize 2 ^ (4 * c) = t at *; omega
    · rw [e]; exact Nat.mul_lt_mul_of_pos_right h (Nat.two_pow_pos _)
theorem cwTo_succ (m c : Nat) : cwTo m (c + 1) = cwTo m c + colM m c * 2 ^ (4 * c) := by
  show cwTo m c ||| colM m c * 2 ^ (4 * c) = _
  rw [Nat.or_comm, ← Nat.shiftLeft_eq, ← Nat.shiftLeft_add_eq_or_of_lt (cwTo_lt m c)]
  omega
theorem cwTo_code (m : Nat) : cwTo m 6 = code m := by
  rw [code_sum, cwTo_succ, cwTo_succ, cwTo_succ, cwTo_succ, cwTo_succ, cwTo_succ]
  show 0 + colM m 0 * 1 + colM m 1 * 16 + colM m 2 * 256 + colM m 3 * 4096 + colM m 4 * 65536 + colM m 5 * 1048576 = _
  omega
/-- The places of row 0, the first ones reckoned. -/
def fsTo (m k : Nat) : List Int := (((cdTop m k ^^^ bitN m 6 : Nat) : Int)) :: (List.range k).map fun c => ((bitN m (7 + c) : Nat) : Int)
theorem fsTo_length (m k : Nat) : (fsTo m k).length = k + 1 := by simp [fsTo]
theorem fsTo_step (m k : Nat) : (fsTo m k ++ [((bitN m (7 + k) : Nat) : Int)]).set 0 (((cdTop m k ^^^ bitN m 6) ^^^ bitN m (7 + k) : Nat) : Int) = fsTo m (k + 1) := by
  have e : (cdTop m k ^^^ bitN m 6) ^^^ bitN m (7 + k) = cdTop m (k + 1) ^^^ bitN m 6 := by
    show _ = cdTop m k ^^^ bitN m (7 + k) ^^^ bitN m 6
    rw [Nat.xor_assoc, Nat.xor_comm (bitN m 6), ← Nat.xor_assoc]
  rw [e]
  simp [fsTo, List.range_succ]
theorem fsTo_get (m c : Nat) (hc : c < 6) : (fsTo m 5).getD c 0 = ((topM m c : Nat) : Int) := by
  unfold fsTo topM
  match c, hc with
  | 0, _ => rfl
  | 1, _ => rfl
  | 2, _ => rfl
  | 3, _ => rfl
  | 4, _ => rfl
  | 5, _ => rfl

theorem and3 (x : Nat) (hx : x < 9223372036854775808) : bits .and .i64 (x : Int) 3 = ((x % 4 : Nat) : Int) := by
  rw [show (3 : Int) = ((3 : Nat) : Int) from rfl, i64_and _ _ hx (by omega), show (3 : Nat) = 2 ^ 2 - 1 from rfl, Nat.and_two_pow_sub_one_eq_mod]

set_option maxRecDepth 100000 in
theorem codeOf_any (m : Int) (w : World) (m0 : 0 ≤ m) (m1 : m ≤ 4095) :
    Calls Tryz.prog 41 #[.int .i64 m] w fun e w' => e = .returned (.int .i64 (code m.toNat : Nat)) ∧ Below w.heap.size w w' := by
  obtain ⟨m, rfl⟩ := Int.eq_ofNat_of_zero_le m0
  rw [Int.toNat_natCast, ← cwTo_code]
  have a1 := and3 m (by omega)
  have a2 := and3 (m / 4) (by omega)
  have a3 := and3 (m / 16) (by omega)
  push_cast at a1 a2 a3
  have C1 := Lib.hid (fun w => hexOf_any ((m : Int) % 4) ((m : Int) / 4 % 4) ((m : Int) / 16 % 4) w (by omega) (by omega) (by omega) (by omega) (by omega) (by omega))
  have e1 : hexRow ((m : Int) % 4).toNat ((m : Int) / 4 % 4).toNat ((m : Int) / 16 % 4).toNat = cdRow m := by
    unfold cdRow
    rw [show ((m : Int) % 4).toNat = m % 4 by omega, show ((m : Int) / 4 % 4).toNat = m / 4 % 4 by omega, show ((m : Int) / 16 % 4).toNat = m / 16 % 4 by omega]
  rw [e1] at C1
  have a6 : bits .and .i64 ((m : Int) / 64) 1 = ((bitN m 6 : Nat) : Int) := bit_int2 m _ 6 (by omega) (by omega)
  clear e1
  go_enter Tryz.func41, Tryz.ntmps41
  go_wp2_with fail
  refine (C1.out _).mono ?_
  rintro e w1 ⟨v1, rfl, hO1, hs1⟩
  obtain ⟨ar, cr, rfl, hR1, hl1, hc1⟩ := hO1.shapeN
  have hbl6 := bitN_le m 6
  have HRW := Lib.hid (fun c => cdRow_le m c)
  have Hlr : Hid ((cdRow m).length = 6) := Lib.hid rfl
  have hrl : 6 ≤ (cdRow m).length := Nat.le_of_eq Hlr.out.symm
  have hrl2 : (cdRow m).length ≤ 6 := Nat.le_of_eq Hlr.out
  have HCM : Hid (∀ c, colM m c = fill ((cdRow m).getD c 0) (bitN m 6) (topM m c)) := Lib.hid (fun _ => rfl)
  generalize cdRow m = row at *
  clear C1 a1 a2 a3 hO1 m0
  have hF0 : Owns w1.heap.size (w1.alloc (.cells #[.int .i64 ((bitN m 6 : Nat) : Int)] 3)) (.slice (some ⟨w1.heap.size, 0, none⟩) 1 1) (fsTo m 0) := by
    have e : fsTo m 0 = [((bitN m 6 : Nat) : Int)] := by simp [fsTo, cdTop]
    rw [e]
    exact ⟨by simp, .inr ⟨w1.heap.size, 1, _, rfl, Nat.le_refl _, heap_alloc_new w1 _, by simp, by unfold maxLen; omega, by simp, by simp⟩⟩
  go_wp2_with fail
  go_loopw [5, 6] (fun v x wr => ∃ k : Nat, k ≤ 5 ∧ x = .int .i64 ((k : Int) + 1) ∧ Owns w1.heap.size wr v (fsTo m k) ∧ Below w1.heap.size w1 wr)
    (fun _ x _ => (6 - (intOf x).toNat))
  case atStart => exact ⟨0, by omega, rfl, hF0, (Below.refl _ _).alloc (Nat.le_refl _) _⟩
  case round =>
    obtain ⟨k, hk, rfl, hO, hbel⟩ := hrel
    have hlen := Nat.le_of_eq (fsTo_length m k)
    have hsz := hbel.size
    by_cases hlt : k < 5
    · have hki : (k : Int) + 1 < 6 := by omega
      have hbt : bits .and .i64 ((m : Int) / 2 ^ (6 + (k + 1))) 1 = ((bitN m (7 + k) : Nat) : Int) := by
        rw [show 6 + (k + 1) = 7 + k by omega]; exact bit_int m (7 + k) (by omega)
      have hst := fsTo_step m k
      have HST := Lib.hid hst
      have htl := cdTop_le m k
      have hbk := bitN_le m (7 + k)
      clear hst
      have hxl : cdTop m k ^^^ bitN m 6 < 2 ^ 1 := Nat.xor_lt_two_pow htl (by omega)
      have hxr : bits .xor .i64 ((cdTop m k ^^^ bitN m 6 : Nat) : Int) ((bitN m (7 + k) : Nat) : Int) = (((cdTop m k ^^^ bitN m 6) ^^^ bitN m (7 + k) : Nat) : Int) := i64_xor _ _ (by omega) (by omega)
      have e0 : (fsTo m k ++ [((bitN m (7 + k) : Nat) : Int)]).getD 0 0 = ((cdTop m k ^^^ bitN m 6 : Nat) : Int) := by simp [fsTo]
      have E0 := Lib.hid e0
      have LL : Hid ((0 : Int) < ((fsTo m k).length : Int) + 1) := Lib.hid (by omega)
      clear e0 hxl
      go_wp2_with (first | (at_builtin; refine wpList_app rfl _ _ rfl w1.heap.size _ rfl hO rfl (by omega) (by omega) ?_; intro v' w2 hO' hbel' hg'; obtain ⟨g, c7, rfl, hgB, hgl, -, -, hcs, hfz⟩ := hO'.head (by simp); have hc0 := hcs 0 (by simp); have hf0 := hfz 0; rw [E0.out] at hc0; have HS := Lib.hid (hO'.store 0); have hl0 := LL.out; clear hcs hfz hO') | fail)
      go_roundw
      case rel =>
        refine ⟨k + 1, by omega, by go_num, ?_, (hbel.trans hbel').setCell (p := ⟨g, 0, none⟩) hgB _⟩
        rw [← HST.out]
        have h := (HS.out (((cdTop m k ^^^ bitN m 6) ^^^ bitN m (7 + k) : Nat) : Int)).1
        rw [List.length_append] at h
        exact h
      case measure => simp [intOf]; omega
    · have HK := Lib.hid (show k = 5 by omega)
      have hFL := fsTo_length m k
      obtain ⟨af, cf, rfl, hRf, hlf, hcf⟩ := hO.shape
      have hR1' := hR1.kept hbel
      have HTM := Lib.hid (fun c hc => show (fsTo m k).getD c 0 = ((topM m c : Nat) : Int) by rw [HK.out]; exact fsTo_get m c hc)
      have HTL := Lib.hid (fun c => topM_lt m c)
      have hfl6 : 6 ≤ (fsTo m k).length := by have := HK.out; omega
      have hfl6' : (fsTo m k).length ≤ 6 := by have := HK.out; omega
      have hk5 : (5 : Int) ≤ (k : Int) := by omega
      clear hO hFL hlen hlt hk
      generalize fsTo m k = fs at *
      go_wp2_with fail
      go_loopw [8, 43] (fun s x wq => ∃ c : Nat, c ≤ 6 ∧ x = .int .i64 (c : Int) ∧ s = .int .i64 ((cwTo m c : Nat) : Int) ∧ Below w1.heap.size w1 wq ∧ Below wr.heap.size wr wq)
        (fun _ x _ => (6 - (intOf x).toNat))
      case atStart => exact ⟨0, by omega, rfl, rfl, hbel, Below.refl _ _⟩
      case round =>
        obtain ⟨c, hc, rfl, rfl, hbel2, hbelr⟩ := hrel
        by_cases hlt : c < 6
        · have hci : (c : Int) < 6 := by omega
          obtain ⟨b1, o1, ha1, hb1, hc1⟩ := (hR1'.kept hbelr) c (by omega)
          obtain ⟨b2, o2, ha2, hb2, hc2⟩ := (hRf.kept hbelr) c (by omega)
          subst ha1
          subst ha2
          rw [HTM.out c hlt] at hc2
          have hi1 : (c : Int) < (row.length : Int) := by omega
          have hi2 : (c : Int) < (fs.length : Int) := by omega
          have hd := HRW.out c
          have htl := HTL.out c
          have CR := Lib.hid (fun w => rowsWith_any (row.getD c 0) (bitN m 6) (topM m c) w (by omega) (by omega) htl)
          rw [← HCM.out c] at CR
          have hcl := colM_lt m c
          have hcw := cwTo_lt m c
          have hcs : Hid (cwTo m (c + 1) = cwTo m c ||| colM m c * 2 ^ (4 * c)) := Lib.hid rfl
          generalize row.getD c 0 = y at *
          generalize topM m c = t at *
          generalize colM m c = u at *
          have hp24 : (2 : Nat) ^ (4 * c) ≤ 2 ^ 20 := Nat.pow_le_pow_right (by omega) (by omega)
          have hmul : u * 2 ^ (4 * c) ≤ 15 * 2 ^ 20 := Nat.mul_le_mul (by omega) hp24
          have HOR : Hid (bits .or .i64 ((cwTo m c : Nat) : Int) (IntKind.i64.wrap ((u : Int) * 2 ^ (4 * (c : Int)).toNat)) = ((cwTo m c ||| u * 2 ^ (4 * c) : Nat) : Int)) := Lib.hid (by
            rw [show (4 * (c : Int)).toNat = 4 * c by omega, show ((u : Int) * 2 ^ (4 * c)) = ((u * 2 ^ (4 * c) : Nat) : Int) by push_cast; rfl, wrap_nat _ (by omega)]
            exact i64_or _ _ (by omega) (by omega))
          generalize cwTo m c = z at *
          have hw4 : IntKind.i64.wrap (4 * (c : Int)) = 4 * (c : Int) := IntWalk.i64_in _ (by omega)
          clear hp24 hmul hcw hcl
          go_wp2_with fail
          go_still_tail 15, (by kernel_rfl)
          still_call ((CR.out _).mono (by rintro e w' ⟨rfl, rfl⟩; exact ⟨rfl, rfl⟩))
          repeat still_step
          refine wpStill_nil ?_
          change wpList _ _ _ _ _ wr.drew
          go_wp2
          go_roundw
          case rel => exact ⟨c + 1, by omega, by go_num, by rw [hcs.out]; exact congrArg _ HOR.out, hbel2.drew, hbelr.drew⟩
          case measure => simp [intOf]; omega
        · obtain rfl : c = 6 := by omega
          go_wp2
          go_ret
          exact ⟨rfl, hs1.trans (hbel2.mono hs1.size)⟩

/-- The words of the first k messages. -/
def cdsTo (k : Nat) : List Int := (List.range k).map fun m => ((code m : Nat) : Int)
theorem cdsTo_succ (k : Nat) : cdsTo (k + 1) = cdsTo k ++ [((code k : Nat) : Int)] := by simp [cdsTo, List.range_succ]
theorem cdsTo_length (k : Nat) : (cdsTo k).length = k := by simp [cdsTo]
theorem cdsTo_get (n k : Nat) (hk : k < n) : (cdsTo n).getD k 0 = ((code k : Nat) : Int) := by
  unfold cdsTo
  simp [List.getD, hk]
theorem words_any (w : World) :
    Calls Tryz.prog 78 #[] w fun e w' => ∃ v, e = .returned v ∧ Owns w.heap.size w' v (cdsTo 4096) ∧ Below w.heap.size w w' := by
  have HE : Hid (∀ k, 4096 ≤ k → k ≤ 4096 → cdsTo k = cdsTo 4096) := Lib.hid (fun k h1 h2 => by rw [show k = 4096 by omega])
  generalize cdsTo 4096 = W at *
  go_enter Tryz.func78, Tryz.ntmps78
  go_wp2_with fail
  go_loopw [1, 4] (fun v x wr => ∃ k : Nat, k ≤ 4096 ∧ x = .int .i64 (k : Int) ∧ Owns w.heap.size wr v (cdsTo k) ∧ Below w.heap.size w wr)
    (fun _ x _ => (4096 - (intOf x).toNat))
  case atStart => exact ⟨0, by omega, rfl, Owns.empty w (Nat.le_refl _), (Below.refl _ _).alloc (Nat.le_refl _) _⟩
  case round =>
    obtain ⟨k, hk, rfl, hO, hbel⟩ := hrel
    have hlen := Nat.le_of_eq (cdsTo_length k)
    have hsz := hbel.size
    by_cases hlt : k < 4096
    · have hki : (k : Int) < 4096 := by omega
      have CC := Lib.hid (fun w => codeOf_any (k : Int) w (by omega) (by omega))
      rw [Int.toNat_natCast] at CC
      have D := Lib.hid (cdsTo_succ k)
      generalize code k = c at *
      go_wp2_with fail
      refine (CC.out _).mono ?_
      rintro e w1 ⟨rfl, hs1⟩
      have hO1 := hO.kept hs1
      have hb1 := hbel.trans (hs1.mono hsz)
      have hsz1 := hb1.size
      go_wp2_with (first | (at_builtin; refine wpList_app rfl _ _ rfl w.heap.size _ rfl hO1 rfl (by omega) (by omega) ?_; intro v' w2 hO' hbel' hg'))
      go_roundw
      case rel => exact ⟨k + 1, by omega, by go_num, by rw [D.out]; exact hO', hb1.trans hbel'⟩
      case measure => simp [intOf]; omega
    · rw [HE.out k (by omega) hk] at hO
      obtain rfl : k = 4096 := by omega
      clear hlt hk hlen
      go_wp2
      go_ret
      exact ⟨_, rfl, hO, hbel⟩

end Go.Proofs.YtmgdcnibmifdeaaGreatDoor
