/- Proves the given statement on laws.FnTurned: whatever the input, the law returns true and its input reads as it did. No conditions. -/
import Derived.Test.YtldjlabllhnpjaaFr
import Derived.Test.YtldjlabllhnpjaaWrd
import Derived.Test.YtldjlabllhnpjaaWDrawP
import Derived.Test.YtldjlabllhnpjaaWPt
import Derived.Test.YtldjlabllhnpjaaWKp
import Derived.Test.YtldjlabllhnpjaaWCyc
import Derived.Test.YtldjlabllhnpjaaCyO
import Derived.Test.YtldjlabllhnpjaaWSame
import Derived.Test.YtldjlabllhnpjaaWMark
set_option linter.unusedVariables false
namespace Go.Proofs.Ytldjlabllhnpjaa.fnTurned
open Go.ChangeShapes Go.WideShapes Go.ChangeAt Go.RowKit
open Go.ChangeMaps (open_string shut_string)
open Res

set_option maxHeartbeats 1000000 in
theorem walk (a0 : Option Addr) (len0 cap0 : Nat) (z0 : List Int) (w : World) (w0 : IsRow .u8 w a0 len0 cap0 z0) :
    Calls Try.prog 13 #[.slice a0 len0 cap0] w fun e w' => e = .returned (.bool true) ∧ Below w.heap.size w w' := by
  obtain ⟨hc, hlen⟩ := w0.code
  clear w0
  generalize z0.take len0 = l at *
  subst hlen
  by_cases hbig : 1048576 < l.length
  · go_enter Try.func13, Try.ntmps13
    go_wp2
    go_ret
    exact ⟨rfl, Below.refl _ _⟩
  · have hl : (l.length : Int) ≤ 1048576 := by omega
    go_enter Try.func13, Try.ntmps13
    go_wp2_with fail
    refine (DrawPermTurned_any _ _ l _ hc).mono ?_
    rintro e w1 ⟨v1, L, rfl, hO1, hL, hb1⟩
    obtain ⟨a1, c1, rfl, hR1, hl1, hc1⟩ := hO1.shape
    clear hO1
    cases hv : permOk L
    · have C1 := Lib.hid (fun a c w hr => implPermTurned_no a c L w (by omega) hr hv)
      have C2 := Lib.hid (fun a c w hr => specPermTurned_no a c L w (by omega) hr hv)
      clear hv
      go_wp2_with fail
      refine (C1.out _ _ _ hR1).mono ?_
      rintro e w2 ⟨v2, rfl, hO2, hs2⟩
      obtain ⟨a2, c2, rfl, hR2, hl2, hc2⟩ := hO2.shape
      have hb2 := hb1.trans (hs2.mono hb1.size)
      go_wp2_with fail
      refine (C2.out _ _ _ (hR1.kept hs2)).mono ?_
      rintro e w3 ⟨v3, rfl, hO3, hs3⟩
      obtain ⟨a3, c3, rfl, hR3, hl3, hc3⟩ := hO3.shape
      have hb3 := hb2.trans (hs3.mono hb2.size)
      go_wp2_with fail
      refine (sameInts_same _ _ _ _ [] _ (by simp) (hR2.kept hs3) hR3).mono ?_
      rintro e w4 ⟨rfl, hs4⟩
      have hb4 := hb3.trans (hs4.mono hb3.size)
      go_wp2_with fail
      refine (sameInts_same _ _ _ _ [] _ (by simp) (hR2.kept (bel2 hs3 hs4)) (hR3.kept hs4)).mono ?_
      rintro e w5 ⟨rfl, hs5⟩
      have hb5 := hb4.trans (hs5.mono hb4.size)
      go_wp2_with fail
      go_ret
      exact ⟨rfl, hb5⟩
    · obtain ⟨l24, ok⟩ := permOk_ok hv
      have hvt := tnL_perm hv
      have C1 := Lib.hid (fun a c w hr => implPermTurned_ok a c L w hr hv)
      have C2 := Lib.hid (fun a c w hr => specPermTurned_ok a c L w hr hv)
      have C3 := Lib.hid (fun a c w hr => implPermTurned_ok a c (tnL L) w hr hvt)
      rw [tn_tn l24 ok] at C3
      have C4 := Lib.hid (fun a c w hr => implPermCycles_ok a c (tnL L) w hr hvt)
      rw [cyL_turn l24 ok] at C4
      have C5 := Lib.hid (fun a c w hr => implPermCycles_ok a c L w hr hv)
      have C6 : Hid (∀ a c w, Reads .i64 w a (tnL L) → Calls Try.prog 38 #[.slice a (tnL L).length c] w fun e w' => e = .returned (.bool (keepB L)) ∧ Below w.heap.size w w') := Lib.hid (fun a c w hr => by rw [← keep_turned hv]; exact implPermKeeps_any a c (tnL L) w (by have := tnTo_length L 24; unfold tnL; omega) hr)
      have C7 := Lib.hid (fun a c w hr => implPermKeeps_any a c L w (by omega) hr)
      have hT : (tnL L).length ≤ 24 := Nat.le_of_eq (tnTo_length _ _)
      have hC := cyL_length L
      generalize tnL L = T at *
      generalize cyL L = C at *
      generalize keepB L = kb at *
      clear hv hvt l24 ok
      go_wp2_with fail
      refine (C1.out _ _ _ hR1).mono ?_
      rintro e w2 ⟨v2, rfl, hO2, hs2⟩
      obtain ⟨a2, c2, rfl, hR2, hl2, hc2⟩ := hO2.shape
      have hb2 := hb1.trans (hs2.mono hb1.size)
      go_wp2_with fail
      refine (C2.out _ _ _ (hR1.kept hs2)).mono ?_
      rintro e w3 ⟨v3, rfl, hO3, hs3⟩
      obtain ⟨a3, c3, rfl, hR3, hl3, hc3⟩ := hO3.shape
      have hb3 := hb2.trans (hs3.mono hb2.size)
      go_wp2_with fail
      refine (sameInts_same _ _ _ _ T _ (by omega) (hR2.kept hs3) hR3).mono ?_
      rintro e w4 ⟨rfl, hs4⟩
      have hb4 := hb3.trans (hs4.mono hb3.size)
      go_wp2_with fail
      refine (C3.out _ _ _ (hR2.kept (bel2 hs3 hs4))).mono ?_
      rintro e w5 ⟨v5, rfl, hO5, hs5⟩
      obtain ⟨a5, c5, rfl, hR5, hl5, hc5⟩ := hO5.shape
      have hb5 := hb4.trans (hs5.mono hb4.size)
      go_wp2_with fail
      refine (C4.out _ _ _ (hR2.kept (bel2 (bel2 hs3 hs4) hs5))).mono ?_
      rintro e w6 ⟨v6, rfl, hO6, hs6⟩
      obtain ⟨a6, c6, rfl, hR6, hl6, hc6⟩ := hO6.shape
      have hb6 := hb5.trans (hs6.mono hb5.size)
      go_wp2_with fail
      refine (C5.out _ _ _ (hR1.kept (bel2 (bel2 (bel2 (bel2 hs2 hs3) hs4) hs5) hs6))).mono ?_
      rintro e w7 ⟨v7, rfl, hO7, hs7⟩
      obtain ⟨a7, c7, rfl, hR7, hl7, hc7⟩ := hO7.shape
      have hb7 := hb6.trans (hs7.mono hb6.size)
      go_wp2_with fail
      refine (sameInts_same _ _ _ _ L _ (by omega) (hR5.kept (bel2 hs6 hs7)) (hR1.kept (bel2 (bel2 (bel2 (bel2 (bel2 hs2 hs3) hs4) hs5) hs6) hs7))).mono ?_
      rintro e w8 ⟨rfl, hs8⟩
      have hb8 := hb7.trans (hs8.mono hb7.size)
      go_wp2_with fail
      refine (sameInts_same _ _ _ _ C _ (by omega) (hR6.kept (bel2 hs7 hs8)) (hR7.kept hs8)).mono ?_
      rintro e w9 ⟨rfl, hs9⟩
      have hb9 := hb8.trans (hs9.mono hb8.size)
      go_wp2_with fail
      refine (C6.out _ _ _ (hR2.kept (bel2 (bel2 (bel2 (bel2 (bel2 (bel2 hs3 hs4) hs5) hs6) hs7) hs8) hs9))).mono ?_
      rintro e w10 ⟨rfl, hs10⟩
      have hb10 := hb9.trans (hs10.mono hb9.size)
      go_wp2_with fail
      refine (C7.out _ _ _ (hR1.kept (bel2 (bel2 (bel2 (bel2 (bel2 (bel2 (bel2 (bel2 hs2 hs3) hs4) hs5) hs6) hs7) hs8) hs9) hs10))).mono ?_
      rintro e w11 ⟨rfl, hs11⟩
      have hb11 := hb10.trans (hs11.mono hb10.size)
      have hkk : (kb == kb) = true := beq_self_eq_true _
      go_wp2_with fail
      go_ret
      exact ⟨rfl, hb11⟩

set_option maxRecDepth 100000 in
theorem lifted (os : Os) (started : os.Started) (H : Type) (enc : TypeId × Value → H) :
    ReturnsInHanded {} Try.checked os 13 .any (Rows.fnTurnedSpec.pre6 enc Try.prog Try.f13 Rows.fnTurnedRow.domain false) (Rows.fnTurnedSpec.post enc Try.prog Try.f13 false true false false) := by
  refine returnsInHanded_of_change (C := Try.checked) own started (by kernel_rfl) Try.func13
    (ChangeSpec.witness6 (enc := enc) (C := Try.checked) false ⟨#[], #[.slice none 0 0], []⟩ 8 (by kernel_rfl) (by kernel_rfl) (by kernel_rfl) (by kernel_rfl)) ?_
  intro W base args ds gs before hval0 hW hcnd _
  have hval : ∀ (j : Nat) t v, Try.f13.params[j]? = some t → args[j]? = some v → Value.okWide Try.prog W .any base t v := hval0
  have hW' := hW
  obtain ⟨p, q, hA0, hV, rfl, hfz, hnd⟩ := hW
  have hA : DataW.TrodAll enc Try.prog W 0 (fun _ => true) true Try.f13.params.toList args.toList ds p := hA0
  rw [Try.params13] at hA hval
  obtain ⟨v0, vs0, d0, ds0, p0, q0, hargs, rfl, rfl, h0, r0⟩ := trodAll_cons hA
  obtain ⟨rfl, rfl, rfl⟩ := trodAll_nil r0
  obtain rfl : args = #[v0] := by cases args; simp_all
  obtain ⟨rfl, rfl⟩ := trodVars_none hV
  obtain ⟨a0, len0, cap0, rfl⟩ := okWide_slice Try.underlying29 (hval 0 29 v0 rfl rfl)
  have k0 := h0
  have lt0 : ∀ x ∈ p0, x.block < W.heap.size := by obtain ⟨m, hm⟩ := k0; exact DataW.trod_lt m _ _ _ hm
  obtain ⟨z0, w0⟩ : ∃ zs, IsRow .u8 W a0 len0 cap0 zs := by
    obtain ⟨fuel, hf⟩ := h0
    rcases open_ints Try.underlying29 Try.underlying5 (by kernel_rfl) hf with ⟨hcs, _⟩ | ⟨x, l, c, zs, hcs, _, hl, hm, hz, _, hcell, hwz⟩
    · simp [Value.cells] at hcs
      obtain ⟨rfl, rfl, rfl⟩ := hcs
      exact ⟨[], .inl ⟨rfl, rfl, rfl, rfl⟩⟩
    · simp [Value.cells] at hcs
      obtain ⟨rfl, rfl, rfl⟩ := hcs
      exact ⟨zs, .inr ⟨_, rfl, hl, hm, by simpa using hz, hcell, hwz⟩⟩
  clear hA0 hval0
  refine (walk a0 len0 cap0 z0 W w0).mono fun e W' ⟨he, bel⟩ => ?_
  subst he
  exact ⟨_, rfl, _, _, _, [], _, [], hW', trodAll_mk1 (shut_bool Try.underlying4 _), (trodAll_cons_mk (Below.trod laidOut (by kernel_rfl) (of_decide_eq_true (by kernel_rfl)) k0 bel lt0) trodAll_mk0), rfl, bel.frame _, fun h => by cases h⟩

theorem closed : joinedFacts Try.checked.prog 13 Try.f13 Rows.fnTurnedSpec Rows.fnTurnedRow = true := by
  unfold joinedFacts
  rw [may, made, lifts]
  kernel_rfl

theorem over : Rows.fnTurnedRow.holds Try.pinned (OpenSpec.ofChange Rows.fnTurnedSpec) :=
  OpenClaim.holds_of_wide 13 Try.f13 rfl rfl rfl rfl rfl rfl rfl ⟨rfl, rfl, rfl, rfl, rfl⟩ rfl rfl rfl rfl rfl (by kernel_rfl) Try.func13 closed
    (of_decide_eq_true (by kernel_rfl)) (by unfold Func.isWrapper; first | (rw [if_pos (by decide +kernel)]; kernel_rfl) | (rw [if_neg (by decide +kernel)]; exact ⟨rfl, rfl⟩))
    (fun os started H enc _ => lifted os started H enc)

/-- The given statement. -/
theorem proved : Rows.FnTurnedSaid := over
#print axioms proved

end Go.Proofs.Ytldjlabllhnpjaa.fnTurned
