/- Proves the given statement on laws.FnFlip: whatever the input, the law returns true and its input reads as it did. No conditions. -/
import Derived.Test.YthbgmmjgenkjpaaFr
import Derived.Test.YthbgmmjgenkjpaaWrd
import Derived.Test.YthbgmmjgenkjpaaWDrawX
import Derived.Test.YthbgmmjgenkjpaaLatW
import Derived.Test.YthbgmmjgenkjpaaWFlip
import Derived.Test.YthbgmmjgenkjpaaWSame
import Derived.Test.YthbgmmjgenkjpaaWMark
set_option linter.unusedVariables false
namespace Go.Proofs.Ythbgmmjgenkjpaa.fnFlip
open Go.ChangeShapes Go.WideShapes Go.ChangeAt Go.RowKit
open Go.ChangeMaps (open_string shut_string)
open Res

set_option maxHeartbeats 1000000 in
theorem walk (a0 : Option Addr) (len0 cap0 : Nat) (z0 : List Int) (w : World) (w0 : IsRow .u8 w a0 len0 cap0 z0) :
    Calls Try.prog 11 #[.slice a0 len0 cap0] w fun e w' => e = .returned (.bool true) ∧ Below w.heap.size w w' := by
  obtain ⟨hc, hlen⟩ := w0.code
  clear w0
  generalize z0.take len0 = l at *
  subst hlen
  by_cases hbig : 1048576 < l.length
  · go_enter Try.func11, Try.ntmps11
    go_wp2
    go_ret
    exact ⟨rfl, Below.refl _ _⟩
  · have hl : (l.length : Int) ≤ 1048576 := by omega
    go_enter Try.func11, Try.ntmps11
    go_wp2_with fail
    refine (DrawLatticeFlip_any _ _ l _ hc).mono ?_
    rintro e w1 ⟨v1, L, n, rfl, hO1, hL, hb1⟩
    obtain ⟨a1, c1, rfl, hR1, hl1, hc1⟩ := hO1.shape
    clear hO1
    cases hv : flipOk L n
    · have C1 := Lib.hid (fun a c w hr => implLatticeFlip_no a c L n w (by omega) hr hv)
      have C2 := Lib.hid (fun a c w hr => specLatticeFlip_no a c L n w (by omega) hr hv)
      clear hv
      go_wp2_with fail
      refine (C1.out _ _ _ hR1).mono ?_
      rintro e w2 ⟨v2, rfl, hO2, hs2⟩
      obtain ⟨a2, c2, rfl, hR2, hl2, hc2⟩ := hO2.shape
      have hb2 := hb1.trans (hs2.mono hb1.size)
      go_wp2_with fail
      refine (C2.out _ _ _ (hR1.kept hs2)).mono ?_
      rintro e w3 ⟨v3, rfl, hO3, hs3⟩
      obtain ⟨a3, c3, rfl, hR3, hl3, hc3⟩ := hO3.shape
      have hb3 := hb2.trans (hs3.mono hb2.size)
      go_wp2_with fail
      refine (sameInts_same _ _ _ _ [] _ (by simp) (hR2.kept hs3) hR3).mono ?_
      rintro e w4 ⟨rfl, hs4⟩
      have hb4 := hb3.trans (hs4.mono hb3.size)
      go_wp2_with fail
      refine (sameInts_same _ _ _ _ [] _ (by simp) (hR2.kept (bel2 hs3 hs4)) (hR3.kept hs4)).mono ?_
      rintro e w5 ⟨rfl, hs5⟩
      have hb5 := hb4.trans (hs5.mono hb4.size)
      go_wp2_with fail
      go_ret
      exact ⟨rfl, hb5⟩
    · have C1 := Lib.hid (fun a c w hr => implLatticeFlip_ok a c L n w hr hv)
      have C2 := Lib.hid (fun a c w hr => specLatticeFlip_ok a c L n w hr hv)
      have hvv := hv
      unfold flipOk at hvv
      rw [Bool.and_eq_true, inB_iff] at hvv
      obtain ⟨hvec, hn0, hn1⟩ := hvv
      have hfv := flip_vec n.toNat hvec
      have hff := flipV_flipV L n.toNat (vecOk_length hvec)
      have hfd := dot_flip L n.toNat 24 (Nat.le_refl _)
      have hF : (flipV L n.toNat).length ≤ 24 := Nat.le_of_eq (flipV_length _ _)
      have hv2 : flipOk (flipV L n.toNat) n = true := by
        unfold flipOk
        rw [hfv, inB_true hn0 hn1]
        rfl
      have C3 := Lib.hid (fun a c w hr => implLatticeFlip_ok a c (flipV L n.toNat) n w hr hv2)
      rw [hff] at C3
      have hlc : codeB n.toNat = true → latOk (flipV L n.toNat) = latOk L := fun h => flip_lat hvec (by omega) h
      have C4 := Lib.hid (inner_c (flipV L n.toNat) (flipV L n.toNat) _ hfv hfv hfd)
      have C5 := Lib.hid (inner_c L L _ hvec hvec rfl)
      have C6 := Lib.hid (fun w => implCodeIn_ok n w hn0 hn1)
      generalize flipV L n.toNat = F at *
      generalize dotTo L L 24 = y at *
      clear hv hv2 hff hfd hfv hvec
      go_wp2_with fail
      refine (C1.out _ _ _ hR1).mono ?_
      rintro e w2 ⟨v2, rfl, hO2, hs2⟩
      obtain ⟨a2, c2, rfl, hR2, hl2, hc2⟩ := hO2.shape
      have hb2 := hb1.trans (hs2.mono hb1.size)
      go_wp2_with fail
      refine (C2.out _ _ _ (hR1.kept hs2)).mono ?_
      rintro e w3 ⟨v3, rfl, hO3, hs3⟩
      obtain ⟨a3, c3, rfl, hR3, hl3, hc3⟩ := hO3.shape
      have hb3 := hb2.trans (hs3.mono hb2.size)
      go_wp2_with fail
      refine (sameInts_same _ _ _ _ F _ (by omega) (hR2.kept hs3) hR3).mono ?_
      rintro e w4 ⟨rfl, hs4⟩
      have hb4 := hb3.trans (hs4.mono hb3.size)
      go_wp2_with fail
      refine (C3.out _ _ _ (hR2.kept (bel2 hs3 hs4))).mono ?_
      rintro e w5 ⟨v5, rfl, hO5, hs5⟩
      obtain ⟨a5, c5, rfl, hR5, hl5, hc5⟩ := hO5.shape
      have hb5 := hb4.trans (hs5.mono hb4.size)
      go_wp2_with fail
      refine (C4.out _ _ _ _ _ (hR2.kept (bel2 (bel2 hs3 hs4) hs5)) (hR2.kept (bel2 (bel2 hs3 hs4) hs5))).mono ?_
      rintro e w6 ⟨rfl, hs6⟩
      have hb6 := hb5.trans (hs6.mono hb5.size)
      go_wp2_with fail
      refine (C5.out _ _ _ _ _ (hR1.kept (bel2 (bel2 (bel2 (bel2 hs2 hs3) hs4) hs5) hs6)) (hR1.kept (bel2 (bel2 (bel2 (bel2 hs2 hs3) hs4) hs5) hs6))).mono ?_
      rintro e w7 ⟨rfl, hs7⟩
      have hb7 := hb6.trans (hs7.mono hb6.size)
      go_wp2_with fail
      refine (sameInts_same _ _ _ _ L _ (by omega) (hR5.kept (bel2 hs6 hs7)) (hR1.kept (bel2 (bel2 (bel2 (bel2 (bel2 hs2 hs3) hs4) hs5) hs6) hs7))).mono ?_
      rintro e w8 ⟨rfl, hs8⟩
      have hb8 := hb7.trans (hs8.mono hb7.size)
      go_wp2_with fail
      refine (C6.out _).mono ?_
      rintro e w9 ⟨rfl, hs9⟩
      have hb9 := hb8.trans (hs9.mono hb8.size)
      cases hcd : codeB n.toNat
      · go_wp2_with fail
        go_ret
        exact ⟨rfl, hb9⟩
      · have hll := hlc hcd
        have C7 := Lib.hid (latIn_c F (latOk L) hF hll)
        have C8 := Lib.hid (latIn_c L (latOk L) hL rfl)
        clear hcd hlc hll
        cases hz : latOk L
        · rw [hz] at C7 C8
          go_wp2_with fail
          refine (C7.out _ _ _ (hR2.kept (bel2 (bel2 (bel2 (bel2 (bel2 (bel2 hs3 hs4) hs5) hs6) hs7) hs8) hs9))).mono ?_
          rintro e w10 ⟨rfl, hs10⟩
          have hb10 := hb9.trans (hs10.mono hb9.size)
          go_wp2_with fail
          refine (C8.out _ _ _ (hR1.kept (bel2 (bel2 (bel2 (bel2 (bel2 (bel2 (bel2 (bel2 hs2 hs3) hs4) hs5) hs6) hs7) hs8) hs9) hs10))).mono ?_
          rintro e w11 ⟨rfl, hs11⟩
          have hb11 := hb10.trans (hs11.mono hb10.size)
          go_wp2_with fail
          go_ret
          exact ⟨rfl, hb11⟩
        · rw [hz] at C7 C8
          go_wp2_with fail
          refine (C7.out _ _ _ (hR2.kept (bel2 (bel2 (bel2 (bel2 (bel2 (bel2 hs3 hs4) hs5) hs6) hs7) hs8) hs9))).mono ?_
          rintro e w10 ⟨rfl, hs10⟩
          have hb10 := hb9.trans (hs10.mono hb9.size)
          go_wp2_with fail
          refine (C8.out _ _ _ (hR1.kept (bel2 (bel2 (bel2 (bel2 (bel2 (bel2 (bel2 (bel2 hs2 hs3) hs4) hs5) hs6) hs7) hs8) hs9) hs10))).mono ?_
          rintro e w11 ⟨rfl, hs11⟩
          have hb11 := hb10.trans (hs11.mono hb10.size)
          go_wp2_with fail
          go_ret
          exact ⟨rfl, hb11⟩

set_option maxRecDepth 100000 in
theorem lifted (os : Os) (started : os.Started) (H : Type) (enc : TypeId × Value → H) :
    ReturnsInHanded {} Try.checked os 11 .any (Rows.fnFlipSpec.pre6 enc Try.prog Try.f11 Rows.fnFlipRow.domain false) (Rows.fnFlipSpec.post enc Try.prog Try.f11 false true false false) := by
  refine returnsInHanded_of_change (C := Try.checked) own started (by kernel_rfl) Try.func11
    (ChangeSpec.witness6 (enc := enc) (C := Try.checked) false ⟨#[], #[.slice none 0 0], []⟩ 8 (by kernel_rfl) (by kernel_rfl) (by kernel_rfl) (by kernel_rfl)) ?_
  intro W base args ds gs before hval0 hW hcnd _
  have hval : ∀ (j : Nat) t v, Try.f11.params[j]? = some t → args[j]? = some v → Value.okWide Try.prog W .any base t v := hval0
  have hW' := hW
  obtain ⟨p, q, hA0, hV, rfl, hfz, hnd⟩ := hW
  have hA : DataW.TrodAll enc Try.prog W 0 (fun _ => true) true Try.f11.params.toList args.toList ds p := hA0
  rw [Try.params11] at hA hval
  obtain ⟨v0, vs0, d0, ds0, p0, q0, hargs, rfl, rfl, h0, r0⟩ := trodAll_cons hA
  obtain ⟨rfl, rfl, rfl⟩ := trodAll_nil r0
  obtain rfl : args = #[v0] := by cases args; simp_all
  obtain ⟨rfl, rfl⟩ := trodVars_none hV
  obtain ⟨a0, len0, cap0, rfl⟩ := okWide_slice Try.underlying22 (hval 0 22 v0 rfl rfl)
  have k0 := h0
  have lt0 : ∀ x ∈ p0, x.block < W.heap.size := by obtain ⟨m, hm⟩ := k0; exact DataW.trod_lt m _ _ _ hm
  obtain ⟨z0, w0⟩ : ∃ zs, IsRow .u8 W a0 len0 cap0 zs := by
    obtain ⟨fuel, hf⟩ := h0
    rcases open_ints Try.underlying22 Try.underlying5 (by kernel_rfl) hf with ⟨hcs, _⟩ | ⟨x, l, c, zs, hcs, _, hl, hm, hz, _, hcell, hwz⟩
    · simp [Value.cells] at hcs
      obtain ⟨rfl, rfl, rfl⟩ := hcs
      exact ⟨[], .inl ⟨rfl, rfl, rfl, rfl⟩⟩
    · simp [Value.cells] at hcs
      obtain ⟨rfl, rfl, rfl⟩ := hcs
      exact ⟨zs, .inr ⟨_, rfl, hl, hm, by simpa using hz, hcell, hwz⟩⟩
  clear hA0 hval0
  refine (walk a0 len0 cap0 z0 W w0).mono fun e W' ⟨he, bel⟩ => ?_
  subst he
  exact ⟨_, rfl, _, _, _, [], _, [], hW', trodAll_mk1 (shut_bool Try.underlying4 _), (trodAll_cons_mk (Below.trod laidOut (by kernel_rfl) (of_decide_eq_true (by kernel_rfl)) k0 bel lt0) trodAll_mk0), rfl, bel.frame _, fun h => by cases h⟩

theorem closed : joinedFacts Try.checked.prog 11 Try.f11 Rows.fnFlipSpec Rows.fnFlipRow = true := by
  unfold joinedFacts
  rw [may, made, lifts]
  kernel_rfl

theorem over : Rows.fnFlipRow.holds Try.pinned (OpenSpec.ofChange Rows.fnFlipSpec) :=
  OpenClaim.holds_of_wide 11 Try.f11 rfl rfl rfl rfl rfl rfl rfl ⟨rfl, rfl, rfl, rfl, rfl⟩ rfl rfl rfl rfl rfl (by kernel_rfl) Try.func11 closed
    (of_decide_eq_true (by kernel_rfl)) (by unfold Func.isWrapper; first | (rw [if_pos (by decide +kernel)]; kernel_rfl) | (rw [if_neg (by decide +kernel)]; exact ⟨rfl, rfl⟩))
    (fun os started H enc _ => lifted os started H enc)

/-- The given statement. -/
theorem proved : Rows.FnFlipSaid := over
#print axioms proved

end Go.Proofs.Ythbgmmjgenkjpaa.fnFlip
