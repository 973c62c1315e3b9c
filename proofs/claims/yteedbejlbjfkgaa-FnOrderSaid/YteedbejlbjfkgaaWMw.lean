/- Contracts of PermWord: words moved by a permutation. -/
import Derived.Test.YteedbejlbjfkgaaWPm
import Derived.Test.YteedbejlbjfkgaaMw
import Derived.Test.YteedbejlbjfkgaaWCdS
import Derived.StillTailTactics
set_option linter.unusedVariables false
namespace Go.Proofs.Yteedbejlbjfkgaa
open Go.RowKit Res

theorem permOk_ok {p : List Int} (h : permOk p = true) : p.length = 24 ∧ okTo p 24 := by
  unfold permOk at h
  rw [Bool.and_eq_true, beq_iff_eq] at h
  refine ⟨h.1, ?_⟩
  have := (okTo_iff p).2 h.2
  rw [h.1] at this
  exact this

theorem moved_any (a : Option Addr) (cap : Nat) (p : List Int) (n : Int) (w : World) (hp : permOk p = true) (hr : Reads .i64 w a p) (hn0 : 0 ≤ n) (hn : n ≤ 16777215) :
    Calls Try.prog 40 #[.slice a p.length cap, .int .i64 n] w fun e w' => e = .returned (.int .i64 (mvW p n.toNat : Nat)) ∧ Below w.heap.size w w' := by
  obtain ⟨n, rfl⟩ := Int.eq_ofNat_of_zero_le hn0
  obtain ⟨hl, hok⟩ := permOk_ok hp
  rw [Int.toNat_natCast, hl, ← mwL_all]
  have hP := fun w => placesOf_any (n : Int) w (by omega) (by omega)
  simp only [Int.toNat_natCast] at hP
  have hpl := Lib.hid (fun j (hj : j < (places n).length) => (places_get hj).1)
  have hpn := places_length n
  have hwn := wt_le n
  have hpl24 : (places n).length ≤ 24 := by omega
  have HLT : Hid (∀ k, mwL p ((places n).take k) < 2 ^ 24) := Lib.hid (fun k => by
    refine mwL_lt hok (fun i hi => ?_)
    exact (places_mem.1 (List.mem_of_mem_take hi)).1)
  generalize places n = ps at *
  have HOK := Lib.hid hok
  have HL := Lib.hid hl
  clear hpn hwn hp hok hl
  go_enter Try.func40, Try.ntmps40
  go_wp2_with fail
  refine (hP _).mono ?_
  rintro e w2 ⟨v2, rfl, hO2, hs2⟩
  obtain ⟨a2, c2, rfl, hR2, hl2, hc2⟩ := hO2.shapeN
  have hrp := hr.kept hs2
  clear hO2
  go_wp2_with fail
  go_loop [5, 11] (fun s x => ∃ k : Nat, k ≤ ps.length ∧ x = .int .i64 (k : Int) ∧ s = .int .i64 ((mwL p (ps.take k) : Nat) : Int))
    (fun _ x => (ps.length - (intOf x).toNat))
  case atStart => exact ⟨0, by omega, rfl, rfl⟩
  case round =>
    obtain ⟨k, hk, rfl, rfl⟩ := hrel
    by_cases hlt : k < ps.length
    · obtain ⟨b, off, ha, hb, hc⟩ := hR2 k hlt
      subst ha
      have hq := hpl.out k hlt
      have hst := mwL_snoc p (ps.take k) (ps.getD k 0)
      rw [show List.take k ps ++ [ps.getD k 0] = ps.take (k + 1) by rw [List.take_succ_eq_append_getElem hlt]; simp [List.getD, hlt]] at hst
      have e : ps[k] = ps.getD k 0 := by simp [List.getD, hlt]
      rw [e] at hq
      have Hst := Lib.hid hst
      have hml := HLT.out k
      clear hst e
      have hki : (k : Int) < (ps.length : Int) := by omega
      generalize ps.getD k 0 = q at *
      obtain ⟨bp, offp, hap, hbp, hcp⟩ := hrp q (by rw [HL.out]; exact hq)
      subst hap
      obtain ⟨g0, g1⟩ := HOK.out.1 q hq
      have hqi : (q : Int) < 24 := by omega
      have Hg : Hid (goes p q = (p.getD q 0).toNat) := Lib.hid rfl
      rw [Hg.out] at Hst
      clear Hg
      generalize p.getD q 0 = z at *
      obtain ⟨z, rfl⟩ := Int.eq_ofNat_of_zero_le g0
      rw [Int.toNat_natCast] at Hst
      have hor := or_step (m := mwL p (ps.take k)) (k := z) (by omega) (by omega)
      have HOR := Lib.hid hor
      clear hor
      generalize mwL p (ps.take k) = m at *
      go_wp2_with fail
      go_round
      case rel => exact ⟨k + 1, by omega, by go_num, by rw [Hst.out]; exact congrArg _ HOR.out⟩
      case measure => simp [intOf]; omega
    · obtain rfl : k = ps.length := by omega
      rw [List.take_length]
      go_wp2
      go_ret
      exact ⟨rfl, hs2⟩

theorem shl_stepK {s u e : Nat} (hs : s < 1000000000000) (hu : u < 16) (he : e ≤ 24) : IntKind.i64.wrap ((s : Int) + IntKind.i64.wrap ((u : Int) * 2 ^ e)) = ((s + u * 2 ^ e : Nat) : Int) := by
  have h1 : (2 : Nat) ^ e ≤ 2 ^ 24 := Nat.pow_le_pow_right (by omega) he
  have h2 : u * 2 ^ e ≤ 15 * 2 ^ 24 := Nat.mul_le_mul (by omega) h1
  rw [show ((u : Int) * 2 ^ e) = ((u * 2 ^ e : Nat) : Int) by push_cast; rfl, wrap_nat _ (by omega), ← Int.natCast_add]
  exact wrap_nat _ (by omega)

set_option maxRecDepth 100000 in
theorem l7Word_any (a : Option Addr) (cap : Nat) (p : List Int) (n : Int) (w : World) (hp : permOk p = true) (hr : Reads .i64 w a p) (hn0 : 0 ≤ n) (hn : n ≤ 16777215) :
    Calls Try.prog 52 #[.slice a p.length cap, .int .i64 n] w fun e w' => e = .returned (.int .i64 (mvW p n.toNat : Nat)) ∧ Below w.heap.size w w' := by
  obtain ⟨n, rfl⟩ := Int.eq_ofNat_of_zero_le hn0
  obtain ⟨hl, hok⟩ := permOk_ok hp
  rw [Int.toNat_natCast, hl]
  have HOK := Lib.hid hok
  have HL := Lib.hid hl
  clear hp hok hl
  go_enter Try.func52, Try.ntmps52
  go_wp2_with fail
  go_loopw [5, 6] (fun s x wr => ∃ k : Nat, k ≤ 24 ∧ x = .int .i64 (k : Int) ∧ s = .int .i64 ((mw p n k : Nat) : Int) ∧ Below w.heap.size w wr)
    (fun _ x _ => (24 - (intOf x).toNat))
  case atStart => exact ⟨0, by omega, rfl, rfl, Below.refl _ _⟩
  case round =>
    obtain ⟨k, hk, rfl, rfl, hbel⟩ := hrel
    by_cases hlt : k < 24
    · have hki : (k : Int) < 24 := by omega
      obtain ⟨bp, offp, hap, hbp, hcp⟩ := hr k (by rw [HL.out]; exact hlt)
      subst hap
      obtain ⟨g0, g1⟩ := HOK.out.1 k hlt
      have hst := mw_step HOK.out n hlt
      have hml := mw_lt HOK.out n k hk
      have CB := Lib.hid (fun w => l1Bit_any (n : Int) (k : Int) w (by omega) (by omega) (by omega) (by omega))
      rw [Int.toNat_natCast, Int.toNat_natCast] at CB
      have hbl := bitN_le n k
      have Hg : Hid (goes p k = (p.getD k 0).toNat) := Lib.hid rfl
      rw [Hg.out] at hst
      clear Hg
      have Hst := Lib.hid hst
      clear hst
      generalize p.getD k 0 = z at *
      generalize bitN n k = u at *
      obtain ⟨z, rfl⟩ := Int.eq_ofNat_of_zero_le g0
      rw [Int.toNat_natCast] at Hst
      have hsh := shl_stepK (s := mw p n k) (u := u) (e := z) (by omega) (by omega) (by omega)
      have HSH := Lib.hid hsh
      clear hsh
      generalize mw p n k = m at *
      have hcd : wr.cell? ⟨bp, offp + k, none⟩ = some (.int .i64 (z : Int)) := by rw [hbel.cell (p := ⟨bp, offp + k, none⟩) hbp]; exact hcp
      clear hcp
      go_wp2_with fail
      go_still_tail 10, (by kernel_rfl)
      still_call ((CB.out _).mono (by rintro e w' ⟨rfl, rfl⟩; exact ⟨rfl, rfl⟩))
      repeat still_step
      refine wpStill_nil ?_
      change wpList _ _ _ _ _ wr.drew
      go_wp2
      go_roundw
      case rel => exact ⟨k + 1, by omega, by go_num, by rw [Hst.out]; exact congrArg _ HSH.out, hbel.drew⟩
      case measure => simp [intOf]; omega
    · obtain rfl : k = 24 := by omega
      go_wp2
      go_ret
      exact ⟨rfl, hbel⟩

/-- May PermWord answer? -/
def pwOk (p : List Int) (n : Int) : Bool := permOk p && inB n 0 16777215
theorem implPermWord_no (a : Option Addr) (cap : Nat) (p : List Int) (n : Int) (w : World) (hl : p.length ≤ 9223372036854775807) (hr : Reads .i64 w a p) (h : pwOk p n = false) :
    Calls Try.prog 13 #[.slice a p.length cap, .int .i64 n] w fun e w' => e = .returned (.tuple #[.int .i64 0, .bool false]) ∧ w = w' := by
  unfold pwOk at h
  go_enter Try.func13, Try.ntmps13
  go_wp2_with fail
  refine (implPermValid_any _ _ _ _ hl hr).mono ?_
  rintro e w' ⟨rfl, rfl⟩
  cases h1 : permOk p
  · go_wp2_with fail
    go_ret2
    exact ⟨rfl, rfl⟩
  · rw [h1, Bool.true_and] at h
    go_wp2_with fail
    refine (implWordValid_any _ _).mono ?_
    rintro e w' ⟨rfl, rfl⟩
    go_wp2_with fail
    go_ret2
    exact ⟨rfl, rfl⟩
theorem implPermWord_ok (a : Option Addr) (cap : Nat) (p : List Int) (n : Int) (w : World) (hr : Reads .i64 w a p) (h : pwOk p n = true) :
    Calls Try.prog 13 #[.slice a p.length cap, .int .i64 n] w fun e w' => e = .returned (.tuple #[.int .i64 (mvW p n.toNat : Nat), .bool true]) ∧ Below w.heap.size w w' := by
  unfold pwOk at h
  rw [Bool.and_eq_true] at h
  obtain ⟨h1, h2⟩ := h
  obtain ⟨n0, n1⟩ := inB_iff.1 h2
  have hl := (permOk_ok h1).1
  have C1 := Lib.hid (implPermValid_any a cap p w (by omega) hr)
  have C2 := Lib.hid (implWordValid_any n w)
  have C3 := Lib.hid (moved_any a cap p n w h1 hr n0 n1)
  rw [h1] at C1
  rw [h2] at C2
  clear h1 h2 hl
  generalize mvW p n.toNat = m at *
  go_enter Try.func13, Try.ntmps13
  go_wp2_with fail
  refine (C1.out).mono ?_
  rintro e w' ⟨rfl, rfl⟩
  go_wp2_with fail
  refine (C2.out).mono ?_
  rintro e w' ⟨rfl, rfl⟩
  go_wp2_with fail
  refine C3.out.mono ?_
  rintro e w1 ⟨rfl, hs1⟩
  go_wp2_with fail
  go_ret2
  exact ⟨rfl, hs1⟩

end Go.Proofs.Yteedbejlbjfkgaa
