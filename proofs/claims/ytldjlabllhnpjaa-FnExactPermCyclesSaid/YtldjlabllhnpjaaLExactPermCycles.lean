/- Proves the given statement on laws.FnExactPermCycles: whatever the input, the law returns true and its input reads as it did. No conditions. -/
import Derived.Test.YtldjlabllhnpjaaFr
import Derived.Test.YtldjlabllhnpjaaWrd
import Derived.Test.YtldjlabllhnpjaaWCyc
import Derived.Test.YtldjlabllhnpjaaWEq
import Derived.Test.YtldjlabllhnpjaaWMark
set_option linter.unusedVariables false
namespace Go.Proofs.Ytldjlabllhnpjaa.fnExactPermCycles
open Go.ChangeShapes Go.WideShapes Go.ChangeAt Go.RowKit
open Go.ChangeMaps (open_string shut_string)
open Res

theorem walk (a0 : Option Addr) (len0 cap0 : Nat) (z0 : List Int) (w : World)
    (w0 : IsRow .i64 w a0 len0 cap0 z0) :
    Calls Try.prog 10 #[.slice a0 len0 cap0] w fun e w' => e = .returned (.bool true) ∧ Below w.heap.size w w' := by
  obtain ⟨hr, hlen, hlc, hcap, -⟩ := w0.reads
  clear w0
  generalize z0.take len0 = l at *
  subst hlen
  by_cases hbig : 1048576 < l.length
  · go_enter Try.func10, Try.ntmps10
    go_wp2
    go_ret
    exact ⟨rfl, Below.refl _ _⟩
  have hl : (l.length : Int) ≤ 1048576 := by omega
  have hb0 := Below.refl w.heap.size w
  cases hv : permOk l
  · have hL : ([] : List Int).length ≤ 24 := by simp
    have C1 := Lib.hid (fun a c (w : World) (hr : Reads .i64 w a l) => specPermCycles_no a c l w (by omega) hr hv)
    have C2 := Lib.hid (fun a c (w : World) (hr : Reads .i64 w a l) => implPermCycles_no a c l w (by omega) hr hv)
    clear hv
    go_enter Try.func10, Try.ntmps10
    go_wp2_with fail
    refine (toIntS_any _ _ l _ (by omega) hr).mono ?_
    rintro e w1 ⟨v1, rfl, hO1, hs1⟩
    obtain ⟨a1, c1, rfl, hR1, hl1, hc1⟩ := hO1.shape
    have hb1 := hb0.trans (hs1.mono hb0.size)
    go_wp2_with fail
    refine (C1.out _ _ _ hR1).mono ?_
    rintro e w2 ⟨v2, rfl, hO2, hs2⟩
    obtain ⟨a2, c2, rfl, hR2, hl2, hc2⟩ := hO2.shape
    have hb2 := hb1.trans (hs2.mono hb1.size)
    go_wp2_with fail
    refine (toIntS_any _ _ l _ (by omega) (hr.kept hb2)).mono ?_
    rintro e w3 ⟨v3, rfl, hO3, hs3⟩
    obtain ⟨a3, c3, rfl, hR3, hl3, hc3⟩ := hO3.shape
    have hb3 := hb2.trans (hs3.mono hb2.size)
    go_wp2_with fail
    refine (C2.out _ _ _ hR3).mono ?_
    rintro e w4 ⟨v4, rfl, hO4, hs4⟩
    obtain ⟨a4, c4, rfl, hR4, hl4, hc4⟩ := hO4.shape
    have hb4 := hb3.trans (hs4.mono hb3.size)
    go_wp2_with fail
    refine (eqIntS_any _ _ _ _ [] [] _ (by omega) (by omega) hR4 (hR2.kept (bel2 hs3 hs4))).mono ?_
    rintro e w5 ⟨rfl, hs5⟩
    have hb5 := hb4.trans (hs5.mono hb4.size)
    go_wp2_with fail
    refine (toIntS_any _ _ l _ (by omega) (hr.kept hb5)).mono ?_
    rintro e w6 ⟨v6, rfl, hO6, hs6⟩
    obtain ⟨a6, c6, rfl, hR6, hl6, hc6⟩ := hO6.shape
    have hb6 := hb5.trans (hs6.mono hb5.size)
    go_wp2_with fail
    refine (eqIntS_any _ _ _ _ l l _ (by omega) (by omega) (hR3.kept (bel2 (bel2 hs4 hs5) hs6)) hR6).mono ?_
    rintro e w7 ⟨rfl, hs7⟩
    have hb7 := hb6.trans (hs7.mono hb6.size)
    have hM3 := (hO3.kept (bel2 (bel2 (bel2 hs4 hs5) hs6) hs7))
    have hM2 := (hO2.kept (bel2 (bel2 (bel2 (bel2 hs3 hs4) hs5) hs6) hs7))
    have hM4 := (hO4.kept (bel2 (bel2 hs5 hs6) hs7))
    go_wp2_with fail
    refine (markIntS_any _ _ _ l _ _ (by omega) (by omega) (by omega) hM3).mono ?_
    rintro e w8 ⟨rfl, hX8, hsx8, hgx8⟩
    have hb8 := hb7.trans (hsx8.mono hb2.size)
    have hM4x8 := hM4.past_hi hO3 hgx8 (by first | exact Nat.le_refl _ | exact (hs4).size)
    have hM2x8 := hO2.past_lo hM2 hX8 hgx8 (by first | exact Nat.le_refl _ | exact (hs3).size)
    have hRG8 := hM4x8.reads.1
    have hRS8 := hM2x8.reads.1
    go_wp2_with fail
    refine (eqIntS_any _ _ _ _ [] [] _ (by omega) (by omega) hRG8 hRS8).mono ?_
    rintro e w9 ⟨rfl, hs9⟩
    have hb9 := hb8.trans (hs9.mono hb8.size)
    have hMG := hM4x8.kept hs9
    have hMS := hM2x8.kept hs9
    go_wp2_with fail
    refine (markIntS_any _ _ _ [] 1 _ (by omega) (by omega) (by omega) hMG).mono ?_
    rintro e w10 ⟨rfl, hX10, hsx10, hgx10⟩
    have hb10 := hb9.trans (hsx10.mono hb3.size)
    have hMS2 := hO2.past_lo hMS hX10 hgx10 (by first | exact Nat.le_refl _ | exact (hs3).size)
    have hH := hX10.reads.1
    have hRS := hMS2.reads.1
    go_wp2_with fail
    refine (heldIntS_any _ _ _ 1 _ (by omega) (by omega) (by omega) hH).mono ?_
    rintro e w' ⟨rfl, rfl⟩
    go_wp2_with fail
    refine (toIntS_any _ _ l _ (by omega) (hr.kept hb10)).mono ?_
    rintro e w11 ⟨v11, rfl, hO11, hs11⟩
    obtain ⟨a11, c11, rfl, hR11, hl11, hc11⟩ := hO11.shape
    have hb11 := hb10.trans (hs11.mono hb10.size)
    go_wp2_with fail
    refine (C2.out _ _ _ hR11).mono ?_
    rintro e w12 ⟨v12, rfl, hO12, hs12⟩
    obtain ⟨a12, c12, rfl, hR12, hl12, hc12⟩ := hO12.shape
    have hb12 := hb11.trans (hs12.mono hb11.size)
    go_wp2_with fail
    refine (eqIntS_any _ _ _ _ [] [] _ (by omega) (by omega) hR12 (hRS.kept (bel2 hs11 hs12))).mono ?_
    rintro e w13 ⟨rfl, hs13⟩
    have hb13 := hb12.trans (hs13.mono hb12.size)
    go_wp2_with fail
    refine (heldIntS_any _ _ _ 1 _ (by omega) (by omega) (by omega) (hH.kept (bel2 (bel2 hs11 hs12) hs13))).mono ?_
    rintro e w' ⟨rfl, rfl⟩
    go_wp2_with fail
    go_ret
    exact ⟨rfl, hb13⟩
  · have hL : (cyL l).length ≤ 24 := cyL_length l
    have C1 := Lib.hid (fun a c (w : World) (hr : Reads .i64 w a l) => specPermCycles_ok a c l w hr hv)
    have C2 := Lib.hid (fun a c (w : World) (hr : Reads .i64 w a l) => implPermCycles_ok a c l w hr hv)
    clear hv
    generalize cyL l = L at *
    go_enter Try.func10, Try.ntmps10
    go_wp2_with fail
    refine (toIntS_any _ _ l _ (by omega) hr).mono ?_
    rintro e w1 ⟨v1, rfl, hO1, hs1⟩
    obtain ⟨a1, c1, rfl, hR1, hl1, hc1⟩ := hO1.shape
    have hb1 := hb0.trans (hs1.mono hb0.size)
    go_wp2_with fail
    refine (C1.out _ _ _ hR1).mono ?_
    rintro e w2 ⟨v2, rfl, hO2, hs2⟩
    obtain ⟨a2, c2, rfl, hR2, hl2, hc2⟩ := hO2.shape
    have hb2 := hb1.trans (hs2.mono hb1.size)
    go_wp2_with fail
    refine (toIntS_any _ _ l _ (by omega) (hr.kept hb2)).mono ?_
    rintro e w3 ⟨v3, rfl, hO3, hs3⟩
    obtain ⟨a3, c3, rfl, hR3, hl3, hc3⟩ := hO3.shape
    have hb3 := hb2.trans (hs3.mono hb2.size)
    go_wp2_with fail
    refine (C2.out _ _ _ hR3).mono ?_
    rintro e w4 ⟨v4, rfl, hO4, hs4⟩
    obtain ⟨a4, c4, rfl, hR4, hl4, hc4⟩ := hO4.shape
    have hb4 := hb3.trans (hs4.mono hb3.size)
    go_wp2_with fail
    refine (eqIntS_any _ _ _ _ L L _ (by omega) (by omega) hR4 (hR2.kept (bel2 hs3 hs4))).mono ?_
    rintro e w5 ⟨rfl, hs5⟩
    have hb5 := hb4.trans (hs5.mono hb4.size)
    go_wp2_with fail
    refine (toIntS_any _ _ l _ (by omega) (hr.kept hb5)).mono ?_
    rintro e w6 ⟨v6, rfl, hO6, hs6⟩
    obtain ⟨a6, c6, rfl, hR6, hl6, hc6⟩ := hO6.shape
    have hb6 := hb5.trans (hs6.mono hb5.size)
    go_wp2_with fail
    refine (eqIntS_any _ _ _ _ l l _ (by omega) (by omega) (hR3.kept (bel2 (bel2 hs4 hs5) hs6)) hR6).mono ?_
    rintro e w7 ⟨rfl, hs7⟩
    have hb7 := hb6.trans (hs7.mono hb6.size)
    have hM3 := (hO3.kept (bel2 (bel2 (bel2 hs4 hs5) hs6) hs7))
    have hM2 := (hO2.kept (bel2 (bel2 (bel2 (bel2 hs3 hs4) hs5) hs6) hs7))
    have hM4 := (hO4.kept (bel2 (bel2 hs5 hs6) hs7))
    go_wp2_with fail
    refine (markIntS_any _ _ _ l _ _ (by omega) (by omega) (by omega) hM3).mono ?_
    rintro e w8 ⟨rfl, hX8, hsx8, hgx8⟩
    have hb8 := hb7.trans (hsx8.mono hb2.size)
    have hM4x8 := hM4.past_hi hO3 hgx8 (by first | exact Nat.le_refl _ | exact (hs4).size)
    have hM2x8 := hO2.past_lo hM2 hX8 hgx8 (by first | exact Nat.le_refl _ | exact (hs3).size)
    have hRG8 := hM4x8.reads.1
    have hRS8 := hM2x8.reads.1
    go_wp2_with fail
    refine (eqIntS_any _ _ _ _ L L _ (by omega) (by omega) hRG8 hRS8).mono ?_
    rintro e w9 ⟨rfl, hs9⟩
    have hb9 := hb8.trans (hs9.mono hb8.size)
    have hMG := hM4x8.kept hs9
    have hMS := hM2x8.kept hs9
    go_wp2_with fail
    refine (markIntS_any _ _ _ L 1 _ (by omega) (by omega) (by omega) hMG).mono ?_
    rintro e w10 ⟨rfl, hX10, hsx10, hgx10⟩
    have hb10 := hb9.trans (hsx10.mono hb3.size)
    have hMS2 := hO2.past_lo hMS hX10 hgx10 (by first | exact Nat.le_refl _ | exact (hs3).size)
    have hH := hX10.reads.1
    have hRS := hMS2.reads.1
    go_wp2_with fail
    refine (heldIntS_any _ _ _ 1 _ (by omega) (by omega) (by omega) hH).mono ?_
    rintro e w' ⟨rfl, rfl⟩
    go_wp2_with fail
    refine (toIntS_any _ _ l _ (by omega) (hr.kept hb10)).mono ?_
    rintro e w11 ⟨v11, rfl, hO11, hs11⟩
    obtain ⟨a11, c11, rfl, hR11, hl11, hc11⟩ := hO11.shape
    have hb11 := hb10.trans (hs11.mono hb10.size)
    go_wp2_with fail
    refine (C2.out _ _ _ hR11).mono ?_
    rintro e w12 ⟨v12, rfl, hO12, hs12⟩
    obtain ⟨a12, c12, rfl, hR12, hl12, hc12⟩ := hO12.shape
    have hb12 := hb11.trans (hs12.mono hb11.size)
    go_wp2_with fail
    refine (eqIntS_any _ _ _ _ L L _ (by omega) (by omega) hR12 (hRS.kept (bel2 hs11 hs12))).mono ?_
    rintro e w13 ⟨rfl, hs13⟩
    have hb13 := hb12.trans (hs13.mono hb12.size)
    go_wp2_with fail
    refine (heldIntS_any _ _ _ 1 _ (by omega) (by omega) (by omega) (hH.kept (bel2 (bel2 hs11 hs12) hs13))).mono ?_
    rintro e w' ⟨rfl, rfl⟩
    go_wp2_with fail
    go_ret
    exact ⟨rfl, hb13⟩

set_option maxRecDepth 100000 in
theorem lifted (os : Os) (started : os.Started) (H : Type) (enc : TypeId × Value → H) :
    ReturnsInHanded {} Try.checked os 10 .any (Rows.fnExactPermCyclesSpec.pre6 enc Try.prog Try.f10 Rows.fnExactPermCyclesRow.domain false) (Rows.fnExactPermCyclesSpec.post enc Try.prog Try.f10 false true false false) := by
  refine returnsInHanded_of_change (C := Try.checked) own started (by kernel_rfl) Try.func10
    (ChangeSpec.witness6 (enc := enc) (C := Try.checked) false ⟨#[], #[.slice none 0 0], []⟩ 8 (by kernel_rfl) (by kernel_rfl) (by kernel_rfl) (by kernel_rfl)) ?_
  intro W base args ds gs before hval0 hW hcnd _
  have hval : ∀ (j : Nat) t v, Try.f10.params[j]? = some t → args[j]? = some v → Value.okWide Try.prog W .any base t v := hval0
  have hW' := hW
  obtain ⟨p, q, hA0, hV, rfl, hfz, hnd⟩ := hW
  have hA : DataW.TrodAll enc Try.prog W 0 (fun _ => true) true Try.f10.params.toList args.toList ds p := hA0
  rw [Try.params10] at hA hval
  obtain ⟨v0, vs0, d0, ds0, p0, q0, hargs, rfl, rfl, h0, r0⟩ := trodAll_cons hA
  obtain ⟨rfl, rfl, rfl⟩ := trodAll_nil r0
  obtain rfl : args = #[v0] := by cases args; simp_all
  obtain ⟨rfl, rfl⟩ := trodVars_none hV
  obtain ⟨a0, len0, cap0, rfl⟩ := okWide_slice Try.underlying22 (hval 0 22 v0 rfl rfl)
  have k0 := h0
  have lt0 : ∀ x ∈ p0, x.block < W.heap.size := by obtain ⟨m, hm⟩ := k0; exact DataW.trod_lt m _ _ _ hm
  obtain ⟨z0, w0⟩ : ∃ zs, IsRow .i64 W a0 len0 cap0 zs := by
    obtain ⟨fuel, hf⟩ := h0
    rcases open_ints Try.underlying22 Try.underlying3 (by kernel_rfl) hf with ⟨hcs, _⟩ | ⟨x, l, c, zs, hcs, _, hl, hm, hz, _, hcell, hwz⟩
    · simp [Value.cells] at hcs
      obtain ⟨rfl, rfl, rfl⟩ := hcs
      exact ⟨[], .inl ⟨rfl, rfl, rfl, rfl⟩⟩
    · simp [Value.cells] at hcs
      obtain ⟨rfl, rfl, rfl⟩ := hcs
      exact ⟨zs, .inr ⟨_, rfl, hl, hm, by simpa using hz, hcell, hwz⟩⟩
  clear hA0 hval0
  refine (walk a0 len0 cap0 z0 W w0).mono fun e W' ⟨he, bel⟩ => ?_
  subst he
  exact ⟨_, rfl, _, _, _, [], _, [], hW', trodAll_mk1 (shut_bool Try.underlying4 _), (trodAll_cons_mk (Below.trod laidOut (by kernel_rfl) (of_decide_eq_true (by kernel_rfl)) k0 bel lt0) trodAll_mk0), rfl, bel.frame _, fun h => by cases h⟩

theorem closed : joinedFacts Try.checked.prog 10 Try.f10 Rows.fnExactPermCyclesSpec Rows.fnExactPermCyclesRow = true := by
  unfold joinedFacts
  rw [may, made, lifts]
  kernel_rfl

theorem over : Rows.fnExactPermCyclesRow.holds Try.pinned (OpenSpec.ofChange Rows.fnExactPermCyclesSpec) :=
  OpenClaim.holds_of_wide 10 Try.f10 rfl rfl rfl rfl rfl rfl rfl ⟨rfl, rfl, rfl, rfl, rfl⟩ rfl rfl rfl rfl rfl (by kernel_rfl) Try.func10 closed
    (of_decide_eq_true (by kernel_rfl)) (by unfold Func.isWrapper; first | (rw [if_pos (by decide +kernel)]; kernel_rfl) | (rw [if_neg (by decide +kernel)]; exact ⟨rfl, rfl⟩))
    (fun os started H enc _ => lifted os started H enc)

/-- The given statement. -/
theorem proved : Rows.FnExactPermCyclesSaid := over
#print axioms proved

end Go.Proofs.Ytldjlabllhnpjaa.fnExactPermCycles
