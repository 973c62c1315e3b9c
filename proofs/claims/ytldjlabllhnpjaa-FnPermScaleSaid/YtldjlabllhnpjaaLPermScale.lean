/- Proves the given statement on laws.FnPermScale: whatever the input, the law returns true and its input reads as it did. No conditions. -/
import Derived.Test.YtldjlabllhnpjaaFr
import Derived.Test.YtldjlabllhnpjaaWrd
import Derived.Test.YtldjlabllhnpjaaWScL
import Derived.Test.YtldjlabllhnpjaaWSame
import Derived.Test.YtldjlabllhnpjaaWMark
set_option linter.unusedVariables false
namespace Go.Proofs.Ytldjlabllhnpjaa.fnPermScale
open Go.ChangeShapes Go.WideShapes Go.ChangeAt Go.RowKit
open Go.ChangeMaps (open_string shut_string)
open Res

set_option maxHeartbeats 2000000 in
theorem walk (a0 : Option Addr) (len0 cap0 : Nat) (z0 : List Int) (w : World) (w0 : IsRow .u8 w a0 len0 cap0 z0) :
    Calls Try.prog 5 #[.slice a0 len0 cap0] w fun e w' => e = .returned (.bool true) ∧ Below w.heap.size w w' := by
  obtain ⟨hc, hlen⟩ := w0.code
  clear w0
  generalize z0.take len0 = l at *
  subst hlen
  by_cases hbig : 1048576 < l.length
  · go_enter Try.func5, Try.ntmps5
    go_wp2
    go_ret
    exact ⟨rfl, Below.refl _ _⟩
  · have hl : (l.length : Int) ≤ 1048576 := by omega
    go_enter Try.func5, Try.ntmps5
    go_wp2_with fail
    refine (DrawPermScale_any _ _ l _ hc).mono ?_
    rintro e w1 ⟨n, rfl, hn0, hn4, hb1⟩
    cases hv : inB n 1 3
    · go_wp2_with fail
      refine (implPermScale_no _ _ hv).mono ?_
      rintro e w2 ⟨v2, rfl, hO2, hs2⟩
      obtain ⟨a2, c2, rfl, hR2, hl2, hc2⟩ := hO2.shape
      have hb2 := hb1.trans (hs2.mono hb1.size)
      go_wp2_with fail
      refine (specPermScale_no _ _ hv).mono ?_
      rintro e w3 ⟨v3, rfl, hO3, hs3⟩
      obtain ⟨a3, c3, rfl, hR3, hl3, hc3⟩ := hO3.shape
      have hb3 := hb2.trans (hs3.mono hb2.size)
      go_wp2_with fail
      refine (sameInts_same _ _ _ _ [] _ (by simp) (hR2.kept hs3) hR3).mono ?_
      rintro e w4 ⟨rfl, hs4⟩
      have hb4 := hb3.trans (hs4.mono hb3.size)
      go_wp2_with fail
      refine (sameInts_same _ _ _ _ [] _ (by simp) (hR2.kept (bel2 hs3 hs4)) (hR3.kept hs4)).mono ?_
      rintro e w5 ⟨rfl, hs5⟩
      have hb5 := hb4.trans (hs5.mono hb4.size)
      go_wp2_with fail
      go_ret
      exact ⟨rfl, hb5⟩
    · obtain ⟨n1, n3⟩ := inB_iff.1 hv
      have C1 := Lib.hid (fun w => implPermScale_ok n w hv)
      have C2 := Lib.hid (fun w => specPermScale_ok n w n1 n3)
      obtain ⟨F1, F2, F3, F4⟩ := scale_facts (n := n.toNat) (by omega) (by omega)
      obtain ⟨hl24, hok⟩ := permOk_ok F1
      have hml := mvW_lt hok 54321
      have C3 := Lib.hid (fun a b c d w hr hs => implPermTimes_ok a b c d (scaleL n.toNat) (scaleL n.toNat) w hr hs F1 F1)
      have C3b := Lib.hid (fun a b c d w hr hs => implPermTimes_ok a b c d (tmL (scaleL n.toNat) (scaleL n.toNat)) (scaleL n.toNat) w hr hs (tmL_perm F1 F1) F1)
      have C4 := Lib.hid (fun a c w hr => implPermFixed_ok a c (tmL (tmL (scaleL n.toNat) (scaleL n.toNat)) (scaleL n.toNat)) w hr (tmL_perm (tmL_perm F1 F1) F1))
      rw [F3] at C4
      have C6 := Lib.hid (fun a c w hr => implPermWord_ok a c (scaleL n.toNat) 54321 w hr (by unfold pwOk; rw [F1]; rfl))
      rw [show (54321 : Int).toNat = 54321 from rfl] at C6
      have C7 := Lib.hid (fun w => implCodeScores_ok 54321 w (by omega) (by omega))
      rw [show (54321 : Int).toNat = 54321 from rfl] at C7
      have C8 := Lib.hid (fun w => implCodeScores_ok ((mvW (scaleL n.toNat) 54321 : Nat) : Int) w (by omega) (by omega))
      rw [Int.toNat_natCast, F4] at C8
      have C9 : Hid (∀ a c w, Reads .i64 w a (scaleL n.toNat) → Calls Try.prog 38 #[.slice a (scaleL n.toNat).length c] w fun e w' => e = .returned (.bool true) ∧ Below w.heap.size w w') := Lib.hid (fun a c w hr => by rw [← F2]; exact implPermKeeps_any a c (scaleL n.toNat) w (by omega) hr)
      have hnn : ((n.toNat : Nat) : Int) = n := by omega
      have C10 : Hid (∀ a c w, Reads .i64 w a (ints (scl 54321)) → Calls Try.prog 37 #[.slice a (ints (scl 54321)).length c, .int .i64 n] w fun e w' => ∃ v, e = .returned (.tuple #[v, .bool true]) ∧ Owns w.heap.size w' v (htTo (scl 54321) n.toNat 6) ∧ Below w.heap.size w w') := Lib.hid (fun a c w hr => by
        rw [ints_length, scl_length]
        have h := implHexTimes_ok a c (scl 54321) n.toNat w (scl_length _) (scl_le _) (by omega) hr.toN
        rw [hnn] at h
        exact h)
      have hP : (scaleL n.toNat).length ≤ 24 := Nat.le_of_eq hl24
      have hT : (tmL (scaleL n.toNat) (scaleL n.toNat)).length ≤ 24 := Nat.le_of_eq (tmTo_length _ _ _)
      have hT3 : (tmL (tmL (scaleL n.toNat) (scaleL n.toNat)) (scaleL n.toNat)).length ≤ 24 := Nat.le_of_eq (tmTo_length _ _ _)
      have hS : (ints (scl 54321)).length ≤ 24 := by rw [ints_length, scl_length]; omega
      have hH : (htTo (scl 54321) n.toNat 6).length ≤ 24 := by rw [htTo_length]; omega
      generalize tmL (tmL (scaleL n.toNat) (scaleL n.toNat)) (scaleL n.toNat) = T3 at *
      generalize tmL (scaleL n.toNat) (scaleL n.toNat) = T at *
      generalize htTo (scl 54321) n.toNat 6 = H at *
      generalize ints (scl 54321) = S at *
      generalize mvW (scaleL n.toNat) 54321 = y at *
      generalize scaleL n.toNat = P at *
      clear F1 F2 F3 F4 hv hl24 hok hnn
      go_wp2_with fail
      refine (C1.out _).mono ?_
      rintro e w2 ⟨v2, rfl, hO2, hs2⟩
      obtain ⟨a2, c2, rfl, hR2, hl2, hc2⟩ := hO2.shape
      have hb2 := hb1.trans (hs2.mono hb1.size)
      go_wp2_with fail
      refine (C2.out _).mono ?_
      rintro e w3 ⟨v3, rfl, hO3, hs3⟩
      obtain ⟨a3, c3, rfl, hR3, hl3, hc3⟩ := hO3.shape
      have hb3 := hb2.trans (hs3.mono hb2.size)
      go_wp2_with fail
      refine (sameInts_same _ _ _ _ P _ (by omega) (hR2.kept hs3) hR3).mono ?_
      rintro e w4 ⟨rfl, hs4⟩
      have hb4 := hb3.trans (hs4.mono hb3.size)
      go_wp2_with fail
      refine (C3.out _ _ _ _ _ (hR2.kept (bel2 hs3 hs4)) (hR2.kept (bel2 hs3 hs4))).mono ?_
      rintro e w5 ⟨v5, rfl, hO5, hs5⟩
      obtain ⟨a5, c5, rfl, hR5, hl5, hc5⟩ := hO5.shape
      have hb5 := hb4.trans (hs5.mono hb4.size)
      go_wp2_with fail
      refine (C3b.out _ _ _ _ _ hR5 (hR2.kept (bel2 (bel2 hs3 hs4) hs5))).mono ?_
      rintro e w6 ⟨v6, rfl, hO6, hs6⟩
      obtain ⟨a6, c6, rfl, hR6, hl6, hc6⟩ := hO6.shape
      have hb6 := hb5.trans (hs6.mono hb5.size)
      go_wp2_with fail
      refine (C4.out _ _ _ hR6).mono ?_
      rintro e w' ⟨rfl, rfl⟩
      go_wp2_with fail
      refine (C6.out _ _ _ (hR2.kept (bel2 (bel2 (bel2 hs3 hs4) hs5) hs6))).mono ?_
      rintro e w7 ⟨rfl, hs7⟩
      have hb7 := hb6.trans (hs7.mono hb6.size)
      go_wp2_with fail
      refine (C7.out _).mono ?_
      rintro e w8 ⟨v8, rfl, hO8, hs8⟩
      obtain ⟨a8, c8, rfl, hR8, hl8, hc8⟩ := hO8.shape
      have hb8 := hb7.trans (hs8.mono hb7.size)
      go_wp2_with fail
      refine (C8.out _).mono ?_
      rintro e w9 ⟨v9, rfl, hO9, hs9⟩
      obtain ⟨a9, c9, rfl, hR9, hl9, hc9⟩ := hO9.shape
      have hb9 := hb8.trans (hs9.mono hb8.size)
      go_wp2_with fail
      refine (C10.out _ _ _ (hR8.kept hs9)).mono ?_
      rintro e w10 ⟨v10, rfl, hO10, hs10⟩
      obtain ⟨a10, c10, rfl, hR10, hl10, hc10⟩ := hO10.shape
      have hb10 := hb9.trans (hs10.mono hb9.size)
      go_wp2_with fail
      refine (C9.out _ _ _ (hR2.kept (bel2 (bel2 (bel2 (bel2 (bel2 (bel2 (bel2 hs3 hs4) hs5) hs6) hs7) hs8) hs9) hs10))).mono ?_
      rintro e w11 ⟨rfl, hs11⟩
      have hb11 := hb10.trans (hs11.mono hb10.size)
      go_wp2_with fail
      refine (sameInts_same _ _ _ _ H _ (by omega) (hR9.kept (bel2 hs10 hs11)) (hR10.kept hs11)).mono ?_
      rintro e w12 ⟨rfl, hs12⟩
      have hb12 := hb11.trans (hs12.mono hb11.size)
      go_wp2_with fail
      go_ret
      exact ⟨rfl, hb12⟩

set_option maxRecDepth 100000 in
theorem lifted (os : Os) (started : os.Started) (H : Type) (enc : TypeId × Value → H) :
    ReturnsInHanded {} Try.checked os 5 .any (Rows.fnPermScaleSpec.pre6 enc Try.prog Try.f5 Rows.fnPermScaleRow.domain false) (Rows.fnPermScaleSpec.post enc Try.prog Try.f5 false true false false) := by
  refine returnsInHanded_of_change (C := Try.checked) own started (by kernel_rfl) Try.func5
    (ChangeSpec.witness6 (enc := enc) (C := Try.checked) false ⟨#[], #[.slice none 0 0], []⟩ 8 (by kernel_rfl) (by kernel_rfl) (by kernel_rfl) (by kernel_rfl)) ?_
  intro W base args ds gs before hval0 hW hcnd _
  have hval : ∀ (j : Nat) t v, Try.f5.params[j]? = some t → args[j]? = some v → Value.okWide Try.prog W .any base t v := hval0
  have hW' := hW
  obtain ⟨p, q, hA0, hV, rfl, hfz, hnd⟩ := hW
  have hA : DataW.TrodAll enc Try.prog W 0 (fun _ => true) true Try.f5.params.toList args.toList ds p := hA0
  rw [Try.params5] at hA hval
  obtain ⟨v0, vs0, d0, ds0, p0, q0, hargs, rfl, rfl, h0, r0⟩ := trodAll_cons hA
  obtain ⟨rfl, rfl, rfl⟩ := trodAll_nil r0
  obtain rfl : args = #[v0] := by cases args; simp_all
  obtain ⟨rfl, rfl⟩ := trodVars_none hV
  obtain ⟨a0, len0, cap0, rfl⟩ := okWide_slice Try.underlying29 (hval 0 29 v0 rfl rfl)
  have k0 := h0
  have lt0 : ∀ x ∈ p0, x.block < W.heap.size := by obtain ⟨m, hm⟩ := k0; exact DataW.trod_lt m _ _ _ hm
  obtain ⟨z0, w0⟩ : ∃ zs, IsRow .u8 W a0 len0 cap0 zs := by
    obtain ⟨fuel, hf⟩ := h0
    rcases open_ints Try.underlying29 Try.underlying5 (by kernel_rfl) hf with ⟨hcs, _⟩ | ⟨x, l, c, zs, hcs, _, hl, hm, hz, _, hcell, hwz⟩
    · simp [Value.cells] at hcs
      obtain ⟨rfl, rfl, rfl⟩ := hcs
      exact ⟨[], .inl ⟨rfl, rfl, rfl, rfl⟩⟩
    · simp [Value.cells] at hcs
      obtain ⟨rfl, rfl, rfl⟩ := hcs
      exact ⟨zs, .inr ⟨_, rfl, hl, hm, by simpa using hz, hcell, hwz⟩⟩
  clear hA0 hval0
  refine (walk a0 len0 cap0 z0 W w0).mono fun e W' ⟨he, bel⟩ => ?_
  subst he
  exact ⟨_, rfl, _, _, _, [], _, [], hW', trodAll_mk1 (shut_bool Try.underlying4 _), (trodAll_cons_mk (Below.trod laidOut (by kernel_rfl) (of_decide_eq_true (by kernel_rfl)) k0 bel lt0) trodAll_mk0), rfl, bel.frame _, fun h => by cases h⟩

theorem closed : joinedFacts Try.checked.prog 5 Try.f5 Rows.fnPermScaleSpec Rows.fnPermScaleRow = true := by
  unfold joinedFacts
  rw [may, made, lifts]
  kernel_rfl

theorem over : Rows.fnPermScaleRow.holds Try.pinned (OpenSpec.ofChange Rows.fnPermScaleSpec) :=
  OpenClaim.holds_of_wide 5 Try.f5 rfl rfl rfl rfl rfl rfl rfl ⟨rfl, rfl, rfl, rfl, rfl⟩ rfl rfl rfl rfl rfl (by kernel_rfl) Try.func5 closed
    (of_decide_eq_true (by kernel_rfl)) (by unfold Func.isWrapper; first | (rw [if_pos (by decide +kernel)]; kernel_rfl) | (rw [if_neg (by decide +kernel)]; exact ⟨rfl, rfl⟩))
    (fun os started H enc _ => lifted os started H enc)

/-- The given statement. -/
theorem proved : Rows.FnPermScaleSaid := over
#print axioms proved

end Go.Proofs.Ytldjlabllhnpjaa.fnPermScale
