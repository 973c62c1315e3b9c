/- Proves the given statement on laws.FnExactLatticeInner: whatever the input, the law returns true and its input reads as it did. No conditions. -/
import Derived.Test.YtmnfbdbpanlchaaFr
import Derived.Test.YtmnfbdbpanlchaaWInner
import Derived.Test.YtmnfbdbpanlchaaWEq
set_option linter.unusedVariables false
namespace Go.Proofs.Ytmnfbdbpanlchaa.fnExactLatticeInner
open Go.ChangeShapes Go.WideShapes Go.ChangeAt Go.RowKit
open Go.ChangeMaps (open_string shut_string)
open Res

theorem walk (a0 : Option Addr) (len0 cap0 : Nat) (z0 : List Int) (a1 : Option Addr) (len1 cap1 : Nat) (z1 : List Int) (w : World)
    (w0 : IsRow .i64 w a0 len0 cap0 z0) (w1 : IsRow .i64 w a1 len1 cap1 z1) :
    Calls Try.prog 8 #[.slice a0 len0 cap0, .slice a1 len1 cap1] w fun e w' => e = .returned (.bool true) ∧ Below w.heap.size w w' := by
  obtain ⟨hr, hlen, hlc, hcap, -⟩ := w0.reads
  obtain ⟨hr2, hlen2, hlc2, hcap2, -⟩ := w1.reads
  clear w0 w1
  generalize z0.take len0 = l at *
  generalize z1.take len1 = m at *
  subst hlen
  subst hlen2
  by_cases hbig : 1048576 < l.length
  · go_enter Try.func8, Try.ntmps8
    go_wp2
    go_ret
    exact ⟨rfl, Below.refl _ _⟩
  have hl : (l.length : Int) ≤ 1048576 := by omega
  by_cases hbig2 : 1048576 < m.length
  · go_enter Try.func8, Try.ntmps8
    go_wp2
    go_ret
    exact ⟨rfl, Below.refl _ _⟩
  have hm : (m.length : Int) ≤ 1048576 := by omega
  have hb0 := Below.refl w.heap.size w
  cases hv : (vecOk l && vecOk m)
  · go_enter Try.func8, Try.ntmps8
    go_wp2_with fail
    refine (toIntS_any _ _ l _ (by omega) hr).mono ?_
    rintro e w1 ⟨v1, rfl, hO1, hs1⟩
    obtain ⟨a1, c1, rfl, hR1, hl1, hc1⟩ := hO1.shape
    have hb1 := hb0.trans (hs1.mono hb0.size)
    go_wp2_with fail
    refine (toIntS_any _ _ m _ (by omega) (hr2.kept hb1)).mono ?_
    rintro e w2 ⟨v2, rfl, hO2, hs2⟩
    obtain ⟨a2, c2, rfl, hR2, hl2, hc2⟩ := hO2.shape
    have hb2 := hb1.trans (hs2.mono hb1.size)
    go_wp2_with fail
    refine (specLatticeInner_no _ _ _ _ l m _ (by omega) (by omega) (hR1.kept hs2) hR2 hv).mono ?_
    rintro e w' ⟨rfl, rfl⟩
    go_wp2_with fail
    refine (toIntS_any _ _ l _ (by omega) (hr.kept hb2)).mono ?_
    rintro e w3 ⟨v3, rfl, hO3, hs3⟩
    obtain ⟨a3, c3, rfl, hR3, hl3, hc3⟩ := hO3.shape
    have hb3 := hb2.trans (hs3.mono hb2.size)
    go_wp2_with fail
    refine (toIntS_any _ _ m _ (by omega) (hr2.kept hb3)).mono ?_
    rintro e w4 ⟨v4, rfl, hO4, hs4⟩
    obtain ⟨a4, c4, rfl, hR4, hl4, hc4⟩ := hO4.shape
    have hb4 := hb3.trans (hs4.mono hb3.size)
    go_wp2_with fail
    refine (implLatticeInner_no _ _ _ _ l m _ (by omega) (by omega) (hR3.kept hs4) hR4 hv).mono ?_
    rintro e w' ⟨rfl, rfl⟩
    go_wp2_with fail
    refine (toIntS_any _ _ l _ (by omega) (hr.kept hb4)).mono ?_
    rintro e w5 ⟨v5, rfl, hO5, hs5⟩
    obtain ⟨a5, c5, rfl, hR5, hl5, hc5⟩ := hO5.shape
    have hb5 := hb4.trans (hs5.mono hb4.size)
    have hR3b := (hR3.kept hs4).kept hs5
    go_wp2_with fail
    refine (eqIntS_any _ _ _ _ l l _ (by omega) (by omega) hR3b hR5).mono ?_
    rintro e w6 ⟨rfl, hs6⟩
    have hb6 := hb5.trans (hs6.mono hb5.size)
    go_wp2_with fail
    refine (toIntS_any _ _ m _ (by omega) (hr2.kept hb6)).mono ?_
    rintro e w7 ⟨v7, rfl, hO7, hs7⟩
    obtain ⟨a7, c7, rfl, hR7, hl7, hc7⟩ := hO7.shape
    have hb7 := hb6.trans (hs7.mono hb6.size)
    have hR4b := ((hR4.kept hs5).kept hs6).kept hs7
    go_wp2_with fail
    refine (eqIntS_any _ _ _ _ m m _ (by omega) (by omega) hR4b hR7).mono ?_
    rintro e w8 ⟨rfl, hs8⟩
    have hb8 := hb7.trans (hs8.mono hb7.size)
    go_wp2_with fail
    go_ret
    exact ⟨rfl, hb8⟩
  · obtain ⟨hv1, hv2⟩ := (Bool.and_eq_true _ _).mp hv
    clear hv
    have V1 := Lib.hid hv1
    have V2 := Lib.hid hv2
    clear hv1 hv2
    go_enter Try.func8, Try.ntmps8
    go_wp2_with fail
    refine (toIntS_any _ _ l _ (by omega) hr).mono ?_
    rintro e w1 ⟨v1, rfl, hO1, hs1⟩
    obtain ⟨a1, c1, rfl, hR1, hl1, hc1⟩ := hO1.shape
    have hb1 := hb0.trans (hs1.mono hb0.size)
    go_wp2_with fail
    refine (toIntS_any _ _ m _ (by omega) (hr2.kept hb1)).mono ?_
    rintro e w2 ⟨v2, rfl, hO2, hs2⟩
    obtain ⟨a2, c2, rfl, hR2, hl2, hc2⟩ := hO2.shape
    have hb2 := hb1.trans (hs2.mono hb1.size)
    go_wp2_with fail
    refine (specLatticeInner_ok _ _ _ _ l m _ (hR1.kept hs2) hR2 V1.out V2.out).mono ?_
    rintro e w3 ⟨rfl, hs3⟩
    have hb3 := hb2.trans (hs3.mono hb2.size)
    go_wp2_with fail
    refine (toIntS_any _ _ l _ (by omega) (hr.kept hb3)).mono ?_
    rintro e w4 ⟨v4, rfl, hO4, hs4⟩
    obtain ⟨a4, c4, rfl, hR4, hl4, hc4⟩ := hO4.shape
    have hb4 := hb3.trans (hs4.mono hb3.size)
    go_wp2_with fail
    refine (toIntS_any _ _ m _ (by omega) (hr2.kept hb4)).mono ?_
    rintro e w5 ⟨v5, rfl, hO5, hs5⟩
    obtain ⟨a5, c5, rfl, hR5, hl5, hc5⟩ := hO5.shape
    have hb5 := hb4.trans (hs5.mono hb4.size)
    have hR4a := hR4.kept hs5
    go_wp2_with fail
    refine (implLatticeInner_ok _ _ _ _ l m _ hR4a hR5 V1.out V2.out).mono ?_
    rintro e w6 ⟨rfl, hs6⟩
    have hb6 := hb5.trans (hs6.mono hb5.size)
    go_wp2_with fail
    refine (toIntS_any _ _ l _ (by omega) (hr.kept hb6)).mono ?_
    rintro e w7 ⟨v7, rfl, hO7, hs7⟩
    obtain ⟨a7, c7, rfl, hR7, hl7, hc7⟩ := hO7.shape
    have hb7 := hb6.trans (hs7.mono hb6.size)
    have hR4b := (hR4a.kept hs6).kept hs7
    go_wp2_with fail
    refine (eqIntS_any _ _ _ _ l l _ (by omega) (by omega) hR4b hR7).mono ?_
    rintro e w8 ⟨rfl, hs8⟩
    have hb8 := hb7.trans (hs8.mono hb7.size)
    go_wp2_with fail
    refine (toIntS_any _ _ m _ (by omega) (hr2.kept hb8)).mono ?_
    rintro e w9 ⟨v9, rfl, hO9, hs9⟩
    obtain ⟨a9, c9, rfl, hR9, hl9, hc9⟩ := hO9.shape
    have hb9 := hb8.trans (hs9.mono hb8.size)
    have hR5b := (((hR5.kept hs6).kept hs7).kept hs8).kept hs9
    go_wp2_with fail
    refine (eqIntS_any _ _ _ _ m m _ (by omega) (by omega) hR5b hR9).mono ?_
    rintro e w10 ⟨rfl, hs10⟩
    have hb10 := hb9.trans (hs10.mono hb9.size)
    go_wp2_with fail
    go_ret
    exact ⟨rfl, hb10⟩

set_option maxRecDepth 100000 in
theorem lifted (os : Os) (started : os.Started) (H : Type) (enc : TypeId × Value → H) :
    ReturnsInHanded {} Try.checked os 8 .any (Rows.fnExactLatticeInnerSpec.pre6 enc Try.prog Try.f8 Rows.fnExactLatticeInnerRow.domain false) (Rows.fnExactLatticeInnerSpec.post enc Try.prog Try.f8 false true false false) := by
  refine returnsInHanded_of_change (C := Try.checked) own started (by kernel_rfl) Try.func8
    (ChangeSpec.witness6 (enc := enc) (C := Try.checked) false ⟨#[], #[.slice none 0 0, .slice none 0 0], []⟩ 8 (by kernel_rfl) (by kernel_rfl) (by kernel_rfl) (by kernel_rfl)) ?_
  intro W base args ds gs before hval0 hW hcnd _
  have hval : ∀ (j : Nat) t v, Try.f8.params[j]? = some t → args[j]? = some v → Value.okWide Try.prog W .any base t v := hval0
  have hW' := hW
  obtain ⟨p, q, hA0, hV, rfl, hfz, hnd⟩ := hW
  have hA : DataW.TrodAll enc Try.prog W 0 (fun _ => true) true Try.f8.params.toList args.toList ds p := hA0
  rw [Try.params8] at hA hval
  obtain ⟨v0, vs0, d0, ds0, p0, q0, hargs, rfl, rfl, h0, r0⟩ := trodAll_cons hA
  obtain ⟨v1, vs1, d1, ds1, p1, q1, rfl, rfl, rfl, h1, r1⟩ := trodAll_cons r0
  obtain ⟨rfl, rfl, rfl⟩ := trodAll_nil r1
  obtain rfl : args = #[v0, v1] := by cases args; simp_all
  obtain ⟨rfl, rfl⟩ := trodVars_none hV
  obtain ⟨a0, len0, cap0, rfl⟩ := okWide_slice Try.underlying25 (hval 0 25 v0 rfl rfl)
  have k0 := h0
  have lt0 : ∀ x ∈ p0, x.block < W.heap.size := by obtain ⟨m, hm⟩ := k0; exact DataW.trod_lt m _ _ _ hm
  obtain ⟨z0, w0⟩ : ∃ zs, IsRow .i64 W a0 len0 cap0 zs := by
    obtain ⟨fuel, hf⟩ := h0
    rcases open_ints Try.underlying25 Try.underlying3 (by kernel_rfl) hf with ⟨hcs, _⟩ | ⟨x, l, c, zs, hcs, _, hl, hm, hz, _, hcell, hwz⟩
    · simp [Value.cells] at hcs
      obtain ⟨rfl, rfl, rfl⟩ := hcs
      exact ⟨[], .inl ⟨rfl, rfl, rfl, rfl⟩⟩
    · simp [Value.cells] at hcs
      obtain ⟨rfl, rfl, rfl⟩ := hcs
      exact ⟨zs, .inr ⟨_, rfl, hl, hm, by simpa using hz, hcell, hwz⟩⟩
  obtain ⟨a1, len1, cap1, rfl⟩ := okWide_slice Try.underlying25 (hval 1 25 v1 rfl rfl)
  have k1 := h1
  have lt1 : ∀ x ∈ p1, x.block < W.heap.size := by obtain ⟨m, hm⟩ := k1; exact DataW.trod_lt m _ _ _ hm
  obtain ⟨z1, w1⟩ : ∃ zs, IsRow .i64 W a1 len1 cap1 zs := by
    obtain ⟨fuel, hf⟩ := h1
    rcases open_ints Try.underlying25 Try.underlying3 (by kernel_rfl) hf with ⟨hcs, _⟩ | ⟨x, l, c, zs, hcs, _, hl, hm, hz, _, hcell, hwz⟩
    · simp [Value.cells] at hcs
      obtain ⟨rfl, rfl, rfl⟩ := hcs
      exact ⟨[], .inl ⟨rfl, rfl, rfl, rfl⟩⟩
    · simp [Value.cells] at hcs
      obtain ⟨rfl, rfl, rfl⟩ := hcs
      exact ⟨zs, .inr ⟨_, rfl, hl, hm, by simpa using hz, hcell, hwz⟩⟩
  clear hA0 hval0
  refine (walk a0 len0 cap0 z0 a1 len1 cap1 z1 W w0 w1).mono fun e W' ⟨he, bel⟩ => ?_
  subst he
  exact ⟨_, rfl, _, _, _, [], _, [], hW', trodAll_mk1 (shut_bool Try.underlying4 _), (trodAll_cons_mk (Below.trod laidOut (by kernel_rfl) (of_decide_eq_true (by kernel_rfl)) k0 bel lt0) (trodAll_cons_mk (Below.trod laidOut (by kernel_rfl) (of_decide_eq_true (by kernel_rfl)) k1 bel lt1) trodAll_mk0)), rfl, bel.frame _, fun h => by cases h⟩

theorem over : Rows.fnExactLatticeInnerRow.holds Try.pinned (OpenSpec.ofChange Rows.fnExactLatticeInnerSpec) :=
  OpenClaim.holds_of_wide 8 Try.f8 rfl rfl rfl rfl rfl rfl rfl ⟨rfl, rfl, rfl, rfl, rfl⟩ rfl rfl rfl rfl rfl (by kernel_rfl) Try.func8 (by kernel_rfl)
    (of_decide_eq_true (by kernel_rfl)) (by unfold Func.isWrapper; first | (rw [if_pos (by decide +kernel)]; kernel_rfl) | (rw [if_neg (by decide +kernel)]; exact ⟨rfl, rfl⟩))
    (fun os started H enc _ => lifted os started H enc)

/-- The given statement. -/
theorem proved : Rows.FnExactLatticeInnerSaid := over
#print axioms proved

end Go.Proofs.Ytmnfbdbpanlchaa.fnExactLatticeInner
