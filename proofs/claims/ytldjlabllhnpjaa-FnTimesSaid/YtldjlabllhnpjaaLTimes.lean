/- Proves the given statement on laws.FnTimes: whatever the input, the law returns true and its input reads as it did. No conditions. -/
import Derived.Test.YtldjlabllhnpjaaFr
import Derived.Test.YtldjlabllhnpjaaWrd
import Derived.Test.YtldjlabllhnpjaaWDrawP
import Derived.Test.YtldjlabllhnpjaaWPt
import Derived.Test.YtldjlabllhnpjaaWKp
import Derived.Test.YtldjlabllhnpjaaWSame
import Derived.Test.YtldjlabllhnpjaaWMark
set_option linter.unusedVariables false
namespace Go.Proofs.Ytldjlabllhnpjaa.fnTimes
open Go.ChangeShapes Go.WideShapes Go.ChangeAt Go.RowKit
open Go.ChangeMaps (open_string shut_string)
open Res

set_option maxHeartbeats 1000000 in
theorem walk (a0 : Option Addr) (len0 cap0 : Nat) (z0 : List Int) (w : World) (w0 : IsRow .u8 w a0 len0 cap0 z0) :
    Calls Try.prog 8 #[.slice a0 len0 cap0] w fun e w' => e = .returned (.bool true) ∧ Below w.heap.size w w' := by
  obtain ⟨hc, hlen⟩ := w0.code
  clear w0
  generalize z0.take len0 = l at *
  subst hlen
  by_cases hbig : 1048576 < l.length
  · go_enter Try.func8, Try.ntmps8
    go_wp2
    go_ret
    exact ⟨rfl, Below.refl _ _⟩
  · have hl : (l.length : Int) ≤ 1048576 := by omega
    go_enter Try.func8, Try.ntmps8
    go_wp2_with fail
    refine (DrawPermTimes_any _ _ l _ hc).mono ?_
    rintro e w1 ⟨v1, L, v2, M, rfl, hO1, hL, hO2, hM, hb1⟩
    obtain ⟨a1, c1, rfl, hRa1, hl1, hc1⟩ := hO1.shape
    obtain ⟨a2, c2, rfl, hRb1, hl2, hc2⟩ := hO2.shape
    clear hO1 hO2
    cases hv : (permOk L && permOk M)
    · have C1 := Lib.hid (fun a b c d w hr hs => implPermTimes_no a b c d L M w (by omega) (by omega) hr hs hv)
      have C2 := Lib.hid (fun a b c d w hr hs => specPermTimes_no a b c d L M w (by omega) (by omega) hr hs hv)
      clear hv
      go_wp2_with fail
      refine (C1.out _ _ _ _ _ hRa1 hRb1).mono ?_
      rintro e w2 ⟨v2, rfl, hO2, hs2⟩
      obtain ⟨a2, c2, rfl, hR2, hl2, hc2⟩ := hO2.shape
      have hb2 := hb1.trans (hs2.mono hb1.size)
      go_wp2_with fail
      refine (C2.out _ _ _ _ _ (hRa1.kept hs2) (hRb1.kept hs2)).mono ?_
      rintro e w3 ⟨v3, rfl, hO3, hs3⟩
      obtain ⟨a3, c3, rfl, hR3, hl3, hc3⟩ := hO3.shape
      have hb3 := hb2.trans (hs3.mono hb2.size)
      go_wp2_with fail
      refine (sameInts_same _ _ _ _ [] _ (by simp) (hR2.kept hs3) hR3).mono ?_
      rintro e w4 ⟨rfl, hs4⟩
      have hb4 := hb3.trans (hs4.mono hb3.size)
      go_wp2_with fail
      refine (sameInts_same _ _ _ _ [] _ (by simp) (hR2.kept (bel2 hs3 hs4)) (hR3.kept hs4)).mono ?_
      rintro e w5 ⟨rfl, hs5⟩
      have hb5 := hb4.trans (hs5.mono hb4.size)
      go_wp2_with fail
      go_ret
      exact ⟨rfl, hb5⟩
    · rw [Bool.and_eq_true] at hv
      obtain ⟨h1, h2⟩ := hv
      obtain ⟨l1, o1⟩ := permOk_ok h1
      obtain ⟨l2, o2⟩ := permOk_ok h2
      have h3 := tmL_perm h1 h2
      have C1 := Lib.hid (fun a b c d w hr hs => implPermTimes_ok a b c d L M w hr hs h1 h2)
      have C2 := Lib.hid (fun a b c d w hr hs => specPermTimes_ok a b c d L M w hr hs h1 h2)
      have hml := mvW_lt o1 4321
      have C3 := Lib.hid (fun a c w hr => implPermWord_ok a c (tmL L M) 4321 w hr (by unfold pwOk; rw [h3]; rfl))
      rw [show (4321 : Int).toNat = 4321 from rfl, mvW_tm l1 o1 l2 o2] at C3
      have C4 := Lib.hid (fun a c w hr => implPermWord_ok a c L 4321 w hr (by unfold pwOk; rw [h1]; rfl))
      rw [show (4321 : Int).toNat = 4321 from rfl] at C4
      have C5 := Lib.hid (fun a c w hr => implPermWord_ok a c M ((mvW L 4321 : Nat) : Int) w hr (by unfold pwOk; rw [h2, inB_true (by omega) (by omega)]; rfl))
      rw [Int.toNat_natCast] at C5
      have C6 := Lib.hid (fun a c w hr => implPermKeeps_any a c L w (by omega) hr)
      have C7 := Lib.hid (fun a c w hr => implPermKeeps_any a c M w (by omega) hr)
      have hS : (tmL L M).length ≤ 24 := Nat.le_of_eq (tmTo_length _ _ _)
      have C8 := Lib.hid (fun a c w hr => implPermKeeps_any a c (tmL L M) w (by omega) hr)
      have HK : Hid (keepB L = true → keepB M = true → keepB (tmL L M) = true) := Lib.hid (fun x y => keep_times h1 h2 x y)
      generalize tmL L M = S at *
      generalize mvW M (mvW L 4321) = y at *
      generalize mvW L 4321 = x at *
      clear h1 h2 h3 l1 o1 l2 o2
      go_wp2_with fail
      refine (C1.out _ _ _ _ _ hRa1 hRb1).mono ?_
      rintro e w2 ⟨v2, rfl, hO2, hs2⟩
      obtain ⟨a2, c2, rfl, hR2, hl2, hc2⟩ := hO2.shape
      have hb2 := hb1.trans (hs2.mono hb1.size)
      go_wp2_with fail
      refine (C2.out _ _ _ _ _ (hRa1.kept hs2) (hRb1.kept hs2)).mono ?_
      rintro e w3 ⟨v3, rfl, hO3, hs3⟩
      obtain ⟨a3, c3, rfl, hR3, hl3, hc3⟩ := hO3.shape
      have hb3 := hb2.trans (hs3.mono hb2.size)
      go_wp2_with fail
      refine (sameInts_same _ _ _ _ S _ (by omega) (hR2.kept hs3) hR3).mono ?_
      rintro e w4 ⟨rfl, hs4⟩
      have hb4 := hb3.trans (hs4.mono hb3.size)
      go_wp2_with fail
      refine (C3.out _ _ _ (hR2.kept (bel2 hs3 hs4))).mono ?_
      rintro e w5 ⟨rfl, hs5⟩
      have hb5 := hb4.trans (hs5.mono hb4.size)
      go_wp2_with fail
      refine (C4.out _ _ _ (hRa1.kept (bel2 (bel2 (bel2 hs2 hs3) hs4) hs5))).mono ?_
      rintro e w6 ⟨rfl, hs6⟩
      have hb6 := hb5.trans (hs6.mono hb5.size)
      go_wp2_with fail
      refine (C5.out _ _ _ (hRb1.kept (bel2 (bel2 (bel2 (bel2 hs2 hs3) hs4) hs5) hs6))).mono ?_
      rintro e w7 ⟨rfl, hs7⟩
      have hb7 := hb6.trans (hs7.mono hb6.size)
      go_wp2_with fail
      refine (C6.out _ _ _ (hRa1.kept (bel2 (bel2 (bel2 (bel2 (bel2 hs2 hs3) hs4) hs5) hs6) hs7))).mono ?_
      rintro e w8 ⟨rfl, hs8⟩
      have hb8 := hb7.trans (hs8.mono hb7.size)
      cases hA : keepB L
      · go_wp2_with fail
        go_ret
        exact ⟨rfl, hb8⟩
      · go_wp2_with fail
        refine (C7.out _ _ _ (hRb1.kept (bel2 (bel2 (bel2 (bel2 (bel2 (bel2 hs2 hs3) hs4) hs5) hs6) hs7) hs8))).mono ?_
        rintro e w9 ⟨rfl, hs9⟩
        have hb9 := hb8.trans (hs9.mono hb8.size)
        cases hB : keepB M
        · go_wp2_with fail
          go_ret
          exact ⟨rfl, hb9⟩
        · rw [HK.out hA hB] at C8
          clear HK hA hB
          go_wp2_with fail
          refine (C8.out _ _ _ (hR2.kept (bel2 (bel2 (bel2 (bel2 (bel2 (bel2 hs3 hs4) hs5) hs6) hs7) hs8) hs9))).mono ?_
          rintro e w10 ⟨rfl, hs10⟩
          have hb10 := hb9.trans (hs10.mono hb9.size)
          go_wp2_with fail
          go_ret
          exact ⟨rfl, hb10⟩

set_option maxRecDepth 100000 in
theorem lifted (os : Os) (started : os.Started) (H : Type) (enc : TypeId × Value → H) :
    ReturnsInHanded {} Try.checked os 8 .any (Rows.fnTimesSpec.pre6 enc Try.prog Try.f8 Rows.fnTimesRow.domain false) (Rows.fnTimesSpec.post enc Try.prog Try.f8 false true false false) := by
  refine returnsInHanded_of_change (C := Try.checked) own started (by kernel_rfl) Try.func8
    (ChangeSpec.witness6 (enc := enc) (C := Try.checked) false ⟨#[], #[.slice none 0 0], []⟩ 8 (by kernel_rfl) (by kernel_rfl) (by kernel_rfl) (by kernel_rfl)) ?_
  intro W base args ds gs before hval0 hW hcnd _
  have hval : ∀ (j : Nat) t v, Try.f8.params[j]? = some t → args[j]? = some v → Value.okWide Try.prog W .any base t v := hval0
  have hW' := hW
  obtain ⟨p, q, hA0, hV, rfl, hfz, hnd⟩ := hW
  have hA : DataW.TrodAll enc Try.prog W 0 (fun _ => true) true Try.f8.params.toList args.toList ds p := hA0
  rw [Try.params8] at hA hval
  obtain ⟨v0, vs0, d0, ds0, p0, q0, hargs, rfl, rfl, h0, r0⟩ := trodAll_cons hA
  obtain ⟨rfl, rfl, rfl⟩ := trodAll_nil r0
  obtain rfl : args = #[v0] := by cases args; simp_all
  obtain ⟨rfl, rfl⟩ := trodVars_none hV
  obtain ⟨a0, len0, cap0, rfl⟩ := okWide_slice Try.underlying29 (hval 0 29 v0 rfl rfl)
  have k0 := h0
  have lt0 : ∀ x ∈ p0, x.block < W.heap.size := by obtain ⟨m, hm⟩ := k0; exact DataW.trod_lt m _ _ _ hm
  obtain ⟨z0, w0⟩ : ∃ zs, IsRow .u8 W a0 len0 cap0 zs := by
    obtain ⟨fuel, hf⟩ := h0
    rcases open_ints Try.underlying29 Try.underlying5 (by kernel_rfl) hf with ⟨hcs, _⟩ | ⟨x, l, c, zs, hcs, _, hl, hm, hz, _, hcell, hwz⟩
    · simp [Value.cells] at hcs
      obtain ⟨rfl, rfl, rfl⟩ := hcs
      exact ⟨[], .inl ⟨rfl, rfl, rfl, rfl⟩⟩
    · simp [Value.cells] at hcs
      obtain ⟨rfl, rfl, rfl⟩ := hcs
      exact ⟨zs, .inr ⟨_, rfl, hl, hm, by simpa using hz, hcell, hwz⟩⟩
  clear hA0 hval0
  refine (walk a0 len0 cap0 z0 W w0).mono fun e W' ⟨he, bel⟩ => ?_
  subst he
  exact ⟨_, rfl, _, _, _, [], _, [], hW', trodAll_mk1 (shut_bool Try.underlying4 _), (trodAll_cons_mk (Below.trod laidOut (by kernel_rfl) (of_decide_eq_true (by kernel_rfl)) k0 bel lt0) trodAll_mk0), rfl, bel.frame _, fun h => by cases h⟩

theorem closed : joinedFacts Try.checked.prog 8 Try.f8 Rows.fnTimesSpec Rows.fnTimesRow = true := by
  unfold joinedFacts
  rw [may, made, lifts]
  kernel_rfl

theorem over : Rows.fnTimesRow.holds Try.pinned (OpenSpec.ofChange Rows.fnTimesSpec) :=
  OpenClaim.holds_of_wide 8 Try.f8 rfl rfl rfl rfl rfl rfl rfl ⟨rfl, rfl, rfl, rfl, rfl⟩ rfl rfl rfl rfl rfl (by kernel_rfl) Try.func8 closed
    (of_decide_eq_true (by kernel_rfl)) (by unfold Func.isWrapper; first | (rw [if_pos (by decide +kernel)]; kernel_rfl) | (rw [if_neg (by decide +kernel)]; exact ⟨rfl, rfl⟩))
    (fun os started H enc _ => lifted os started H enc)

/-- The given statement. -/
theorem proved : Rows.FnTimesSaid := over
#print axioms proved

end Go.Proofs.Ytldjlabllhnpjaa.fnTimes
