/- Proves the given statement on laws.FnLinePerm: whatever the input, the law returns true and its input reads as it did. No conditions. -/
import Derived.Test.YteedbejlbjfkgaaFr
import Derived.Test.YteedbejlbjfkgaaWrd
import Derived.Test.YteedbejlbjfkgaaWDrawLn
import Derived.Test.YteedbejlbjfkgaaWRes
import Derived.Test.YteedbejlbjfkgaaLnPm
import Derived.Test.YteedbejlbjfkgaaWOrd
import Derived.Test.YteedbejlbjfkgaaWMw
import Derived.Test.YteedbejlbjfkgaaWLnIn
import Derived.Test.YteedbejlbjfkgaaWSame
import Derived.Test.YteedbejlbjfkgaaWMark
set_option linter.unusedVariables false
namespace Go.Proofs.Yteedbejlbjfkgaa.fnLinePerm
open Go.ChangeShapes Go.WideShapes Go.ChangeAt Go.RowKit
open Go.ChangeMaps (open_string shut_string)
open Res

set_option maxHeartbeats 1000000 in
theorem walk (a0 : Option Addr) (len0 cap0 : Nat) (z0 : List Int) (w : World) (w0 : IsRow .u8 w a0 len0 cap0 z0) :
    Calls Try.prog 3 #[.slice a0 len0 cap0] w fun e w' => e = .returned (.bool true) ∧ Below w.heap.size w w' := by
  obtain ⟨hc, hlen⟩ := w0.code
  clear w0
  generalize z0.take len0 = l at *
  subst hlen
  by_cases hbig : 1048576 < l.length
  · go_enter Try.func3, Try.ntmps3
    go_wp2
    go_ret
    exact ⟨rfl, Below.refl _ _⟩
  · have hl : (l.length : Int) ≤ 1048576 := by omega
    go_enter Try.func3, Try.ntmps3
    go_wp2_with fail
    refine (DrawLinePerm_any _ _ l _ hc).mono ?_
    rintro e w1 ⟨a, b, c, d, rfl, hb1⟩
    cases hv : mOk a b c d
    · have C1 := Lib.hid (fun (w : World) => implLinePerm_no a b c d w hv)
      have C2 := Lib.hid (fun (w : World) => specLinePerm_no a b c d w hv)
      clear hv
      go_wp2_with fail
      refine (C1.out _).mono ?_
      rintro e w2 ⟨v2, rfl, hO2, hs2⟩
      obtain ⟨a2, c2, rfl, hR2, hl2, hc2⟩ := hO2.shape
      have hb2 := hb1.trans (hs2.mono hb1.size)
      go_wp2_with fail
      refine (C2.out _).mono ?_
      rintro e w3 ⟨v3, rfl, hO3, hs3⟩
      obtain ⟨a3, c3, rfl, hR3, hl3, hc3⟩ := hO3.shape
      have hb3 := hb2.trans (hs3.mono hb2.size)
      go_wp2_with fail
      refine (sameInts_same _ _ _ _ [] _ (by simp) (hR2.kept hs3) hR3).mono ?_
      rintro e w4 ⟨rfl, hs4⟩
      have hb4 := hb3.trans (hs4.mono hb3.size)
      go_wp2_with fail
      refine (sameInts_same _ _ _ _ [] _ (by simp) (hR2.kept (bel2 hs3 hs4)) (hR3.kept hs4)).mono ?_
      rintro e w5 ⟨rfl, hs5⟩
      have hb5 := hb4.trans (hs5.mono hb4.size)
      go_wp2_with fail
      go_ret
      exact ⟨rfl, hb5⟩
    · obtain ⟨⟨a0, a1⟩, ⟨b0, b1⟩, ⟨c0, c1⟩, ⟨d0, d1⟩, -⟩ := mOk_bd hv
      have hv2 : mOk ((a.toNat : Nat) : Int) ((b.toNat : Nat) : Int) ((c.toNat : Nat) : Int) ((d.toNat : Nat) : Int) = true := by
        rw [show ((a.toNat : Nat) : Int) = a by omega, show ((b.toNat : Nat) : Int) = b by omega, show ((c.toNat : Nat) : Int) = c by omega, show ((d.toNat : Nat) : Int) = d by omega]
        exact hv
      obtain ⟨F1, F2, F3⟩ := lp_facts hv2
      obtain ⟨l24, ok⟩ := permOk_ok F1
      have C1 := Lib.hid (fun (w : World) => implLinePerm_ok a b c d w hv)
      have C2 := Lib.hid (fun (w : World) => specLinePerm_ok a b c d w hv)
      have C3 := Lib.hid (fun a' c' w hr => implPermOrder_ok a' c' (ints (lp a.toNat b.toNat c.toNat d.toNat)) w hr F1)
      have C5 := Lib.hid (fun (i : Nat) (hi : i < 23) a' c' w hr => implPermWord_ok a' c' (ints (lp a.toNat b.toNat c.toNat d.toNat)) ((gen i : Nat) : Int) w hr (by have := gen_le i hi; unfold pwOk; rw [F1, inB_true (by omega) (by omega)]; rfl))
      have HM := Lib.hid (fun i => mvW_lt ok (gen i))
      have HIN := Lib.hid F2
      have hod : 1 ≤ odL (cyL (ints (lp a.toNat b.toNat c.toNat d.toNat))) ∧ odL (cyL (ints (lp a.toNat b.toNat c.toNat d.toNat))) ≤ 5354228880 := odTo_bd (fun k hk => cyL_range ok hk) _ (Nat.le_refl _)
      have hL : (ints (lp a.toNat b.toNat c.toNat d.toNat)).length ≤ 24 := by omega
      generalize odL (cyL (ints (lp a.toNat b.toNat c.toNat d.toNat))) = n at *
      generalize ints (lp a.toNat b.toNat c.toNat d.toNat) = P at *
      clear hv hv2 F1 F2 l24 ok
      go_wp2_with fail
      refine (C1.out _).mono ?_
      rintro e w2 ⟨v2, rfl, hO2, hs2⟩
      obtain ⟨a2, c2, rfl, hR2, hl2, hc2⟩ := hO2.shape
      have hb2 := hb1.trans (hs2.mono hb1.size)
      go_wp2_with fail
      refine (C2.out _).mono ?_
      rintro e w3 ⟨v3, rfl, hO3, hs3⟩
      obtain ⟨a3, c3, rfl, hR3, hl3, hc3⟩ := hO3.shape
      have hb3 := hb2.trans (hs3.mono hb2.size)
      go_wp2_with fail
      refine (sameInts_same _ _ _ _ P _ (by omega) (hR2.kept hs3) hR3).mono ?_
      rintro e w4 ⟨rfl, hs4⟩
      have hb4 := hb3.trans (hs4.mono hb3.size)
      go_wp2_with fail
      refine (C3.out _ _ _ (hR2.kept (bel2 hs3 hs4))).mono ?_
      rintro e w5 ⟨rfl, hs5⟩
      have hb5 := hb4.trans (hs5.mono hb4.size)
      have hR := (hR2.kept (bel2 (bel2 hs3 hs4) hs5))
      go_wp2_with fail
      go_loopw [13] (fun x wr => ∃ k : Nat, k ≤ 23 ∧ x = .int .i64 (k : Int) ∧ Below w5.heap.size w5 wr) (fun x _ => (23 - (intOf x).toNat))
      case atStart => exact ⟨0, by omega, rfl, Below.refl _ _⟩
      case round =>
        obtain ⟨k, hk, rfl, hbel⟩ := hrel
        by_cases hlt : k < 23
        · have hki : (k : Int) < 23 := by omega
          have CW := Lib.hid (fun w => implLineWord_ok (k : Int) w (by omega) (by omega))
          rw [Int.toNat_natCast] at CW
          have CP := Lib.hid (C5.out k hlt)
          have hml := HM.out k
          rw [Int.toNat_natCast] at CP
          have CI := Lib.hid (fun w => implLineIn_ok ((mvW P (gen k) : Nat) : Int) w (by omega) (by omega))
          rw [Int.toNat_natCast, HIN.out k hlt] at CI
          generalize mvW P (gen k) = y at *
          generalize gen k = g at *
          go_wp2_with fail
          refine (CW.out _).mono ?_
          rintro e w' ⟨rfl, rfl⟩
          go_wp2_with fail
          refine (CP.out _ _ _ (hR.kept hbel)).mono ?_
          rintro e w6 ⟨rfl, hs6⟩
          have hb6 := hbel.trans (hs6.mono hbel.size)
          go_wp2_with fail
          refine (CI.out _).mono ?_
          rintro e w7 ⟨rfl, hs7⟩
          have hb7 := hb6.trans (hs7.mono hb6.size)
          go_wp2_with fail
          go_roundw
          case rel => exact ⟨k + 1, by omega, by go_num, hb7⟩
          case measure => simp [intOf]; omega
        · have hkn : ¬ (k : Int) < 23 := by omega
          have hbe := hb5.trans (hbel.mono hb5.size)
          have hne : ((n : Int) == 0) = false := by rw [beq_eq_false_iff_ne]; omega
          have hn0 : (n : Int) ≠ 0 := by omega
          have F4 : ((11 : Int) % (n : Int) == 0 || (12 : Int) % (n : Int) == 0 || (23 : Int) % (n : Int) == 0) = true := by
            rcases F3 with h | h | h
            · have : (11 : Int) % (n : Int) = 0 := by have e := Nat.mod_eq_zero_of_dvd h; exact_mod_cast e
              rw [this]; rfl
            · have : (12 : Int) % (n : Int) = 0 := by have e := Nat.mod_eq_zero_of_dvd h; exact_mod_cast e
              rw [this]; simp
            · have : (23 : Int) % (n : Int) = 0 := by have e := Nat.mod_eq_zero_of_dvd h; exact_mod_cast e
              rw [this]; simp
          have HF := Lib.hid F4
          clear F3 F4 C1 C2 C3 C5 HM HIN hR2 hR3 hO2 hO3
          go_wp2_with fail
          all_goals go_ret
          all_goals refine ⟨?_, hbe⟩
          all_goals first | rfl | exact ret_bool HF.out | skip

set_option maxRecDepth 100000 in
theorem lifted (os : Os) (started : os.Started) (H : Type) (enc : TypeId × Value → H) :
    ReturnsInHanded {} Try.checked os 3 .any (Rows.fnLinePermSpec.pre6 enc Try.prog Try.f3 Rows.fnLinePermRow.domain false) (Rows.fnLinePermSpec.post enc Try.prog Try.f3 false true false false) := by
  refine returnsInHanded_of_change (C := Try.checked) own started (by kernel_rfl) Try.func3
    (ChangeSpec.witness6 (enc := enc) (C := Try.checked) false ⟨#[], #[.slice none 0 0], []⟩ 8 (by kernel_rfl) (by kernel_rfl) (by kernel_rfl) (by kernel_rfl)) ?_
  intro W base args ds gs before hval0 hW hcnd _
  have hval : ∀ (j : Nat) t v, Try.f3.params[j]? = some t → args[j]? = some v → Value.okWide Try.prog W .any base t v := hval0
  have hW' := hW
  obtain ⟨p, q, hA0, hV, rfl, hfz, hnd⟩ := hW
  have hA : DataW.TrodAll enc Try.prog W 0 (fun _ => true) true Try.f3.params.toList args.toList ds p := hA0
  rw [Try.params3] at hA hval
  obtain ⟨v0, vs0, d0, ds0, p0, q0, hargs, rfl, rfl, h0, r0⟩ := trodAll_cons hA
  obtain ⟨rfl, rfl, rfl⟩ := trodAll_nil r0
  obtain rfl : args = #[v0] := by cases args; simp_all
  obtain ⟨rfl, rfl⟩ := trodVars_none hV
  obtain ⟨a0, len0, cap0, rfl⟩ := okWide_slice Try.underlying22 (hval 0 22 v0 rfl rfl)
  have k0 := h0
  have lt0 : ∀ x ∈ p0, x.block < W.heap.size := by obtain ⟨m, hm⟩ := k0; exact DataW.trod_lt m _ _ _ hm
  obtain ⟨z0, w0⟩ : ∃ zs, IsRow .u8 W a0 len0 cap0 zs := by
    obtain ⟨fuel, hf⟩ := h0
    rcases open_ints Try.underlying22 Try.underlying5 (by kernel_rfl) hf with ⟨hcs, _⟩ | ⟨x, l, c, zs, hcs, _, hl, hm, hz, _, hcell, hwz⟩
    · simp [Value.cells] at hcs
      obtain ⟨rfl, rfl, rfl⟩ := hcs
      exact ⟨[], .inl ⟨rfl, rfl, rfl, rfl⟩⟩
    · simp [Value.cells] at hcs
      obtain ⟨rfl, rfl, rfl⟩ := hcs
      exact ⟨zs, .inr ⟨_, rfl, hl, hm, by simpa using hz, hcell, hwz⟩⟩
  clear hA0 hval0
  refine (walk a0 len0 cap0 z0 W w0).mono fun e W' ⟨he, bel⟩ => ?_
  subst he
  exact ⟨_, rfl, _, _, _, [], _, [], hW', trodAll_mk1 (shut_bool Try.underlying4 _), (trodAll_cons_mk (Below.trod laidOut (by kernel_rfl) (of_decide_eq_true (by kernel_rfl)) k0 bel lt0) trodAll_mk0), rfl, bel.frame _, fun h => by cases h⟩

theorem closed : joinedFacts Try.checked.prog 3 Try.f3 Rows.fnLinePermSpec Rows.fnLinePermRow = true := by
  unfold joinedFacts
  rw [may, made, lifts]
  kernel_rfl

theorem over : Rows.fnLinePermRow.holds Try.pinned (OpenSpec.ofChange Rows.fnLinePermSpec) :=
  OpenClaim.holds_of_wide 3 Try.f3 rfl rfl rfl rfl rfl rfl rfl ⟨rfl, rfl, rfl, rfl, rfl⟩ rfl rfl rfl rfl rfl (by kernel_rfl) Try.func3 closed
    (of_decide_eq_true (by kernel_rfl)) (by unfold Func.isWrapper; first | (rw [if_pos (by decide +kernel)]; kernel_rfl) | (rw [if_neg (by decide +kernel)]; exact ⟨rfl, rfl⟩))
    (fun os started H enc _ => lifted os started H enc)

/-- The given statement. -/
theorem proved : Rows.FnLinePermSaid := over
#print axioms proved

end Go.Proofs.Yteedbejlbjfkgaa.fnLinePerm
