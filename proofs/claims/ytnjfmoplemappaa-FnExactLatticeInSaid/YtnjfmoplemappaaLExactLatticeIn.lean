/- Proves the given statement on laws.FnExactLatticeIn: whatever the input, the law returns true and its input reads as it did. No conditions. -/
import Derived.Test.YtnjfmoplemappaaFr
import Derived.Test.YtnjfmoplemappaaWrd
import Derived.Test.YtnjfmoplemappaaWLatInS
import Derived.Test.YtnjfmoplemappaaWEq
set_option linter.unusedVariables false
namespace Go.Proofs.Ytnjfmoplemappaa.fnExactLatticeIn
open Go.ChangeShapes Go.WideShapes Go.ChangeAt Go.RowKit
open Go.ChangeMaps (open_string shut_string)
open Res

theorem walk (a0 : Option Addr) (len0 cap0 : Nat) (z0 : List Int) (w : World) (w0 : IsRow .i64 w a0 len0 cap0 z0) :
    Calls Try.prog 9 #[.slice a0 len0 cap0] w fun e w' => e = .returned (.bool true) ∧ Below w.heap.size w w' := by
  obtain ⟨hr, hlen, hlc, hcap, -⟩ := w0.reads
  clear w0
  generalize z0.take len0 = l at *
  subst hlen
  by_cases hbig : 1048576 < l.length
  · go_enter Try.func9, Try.ntmps9
    go_wp2
    go_ret
    exact ⟨rfl, Below.refl _ _⟩
  have hl : (l.length : Int) ≤ 1048576 := by omega
  have hb0 := Below.refl w.heap.size w
  cases hv : vecOk l
  · go_enter Try.func9, Try.ntmps9
    go_wp2_with fail
    refine (toIntS_any _ _ l _ (by omega) hr).mono ?_
    rintro e w1 ⟨v1, rfl, hO1, hs1⟩
    obtain ⟨a1, c1, rfl, hR1, hl1, hc1⟩ := hO1.shape
    have hb1 := hb0.trans (hs1.mono hb0.size)
    go_wp2_with fail
    refine (specLatticeIn_no _ _ l _ (by omega) hR1 hv).mono ?_
    rintro e w' ⟨rfl, rfl⟩
    go_wp2_with fail
    refine (toIntS_any _ _ l _ (by omega) (hr.kept hb1)).mono ?_
    rintro e w2 ⟨v2, rfl, hO2, hs2⟩
    obtain ⟨a2, c2, rfl, hR2, hl2, hc2⟩ := hO2.shape
    have hb2 := hb1.trans (hs2.mono hb1.size)
    go_wp2_with fail
    refine (implLatticeIn_no _ _ l _ (by omega) hR2 hv).mono ?_
    rintro e w' ⟨rfl, rfl⟩
    go_wp2_with fail
    refine (toIntS_any _ _ l _ (by omega) (hr.kept hb2)).mono ?_
    rintro e w3 ⟨v3, rfl, hO3, hs3⟩
    obtain ⟨a3, c3, rfl, hR3, hl3, hc3⟩ := hO3.shape
    have hb3 := hb2.trans (hs3.mono hb2.size)
    go_wp2_with fail
    refine (eqIntS_any _ _ _ _ l l _ (by omega) (by omega) (hR2.kept hs3) hR3).mono ?_
    rintro e w4 ⟨rfl, hs4⟩
    have hb4 := hb3.trans (hs4.mono hb3.size)
    go_wp2_with fail
    go_ret
    exact ⟨rfl, hb4⟩
  · have V := Lib.hid hv
    clear hv
    go_enter Try.func9, Try.ntmps9
    go_wp2_with fail
    refine (toIntS_any _ _ l _ (by omega) hr).mono ?_
    rintro e w1 ⟨v1, rfl, hO1, hs1⟩
    obtain ⟨a1, c1, rfl, hR1, hl1, hc1⟩ := hO1.shape
    have hb1 := hb0.trans (hs1.mono hb0.size)
    go_wp2_with fail
    refine (specLatticeIn_ok _ _ l _ hR1 V.out).mono ?_
    rintro e w2 ⟨rfl, hs2⟩
    have hb2 := hb1.trans (hs2.mono hb1.size)
    go_wp2_with fail
    refine (toIntS_any _ _ l _ (by omega) (hr.kept hb2)).mono ?_
    rintro e w3 ⟨v3, rfl, hO3, hs3⟩
    obtain ⟨a3, c3, rfl, hR3, hl3, hc3⟩ := hO3.shape
    have hb3 := hb2.trans (hs3.mono hb2.size)
    go_wp2_with fail
    refine (implLatticeIn_ok _ _ l _ hR3 V.out).mono ?_
    rintro e w4 ⟨rfl, hs4⟩
    have hb4 := hb3.trans (hs4.mono hb3.size)
    generalize latB l = g at *
    go_wp2_with fail
    refine (toIntS_any _ _ l _ (by omega) (hr.kept hb4)).mono ?_
    rintro e w5 ⟨v5, rfl, hO5, hs5⟩
    obtain ⟨a5, c5, rfl, hR5, hl5, hc5⟩ := hO5.shape
    have hb5 := hb4.trans (hs5.mono hb4.size)
    go_wp2_with fail
    refine (eqIntS_any _ _ _ _ l l _ (by omega) (by omega) ((hR3.kept hs4).kept hs5) hR5).mono ?_
    rintro e w6 ⟨rfl, hs6⟩
    have hb6 := hb5.trans (hs6.mono hb5.size)
    go_wp2_with fail
    go_ret
    exact ⟨rfl, hb6⟩

set_option maxRecDepth 100000 in
theorem lifted (os : Os) (started : os.Started) (H : Type) (enc : TypeId × Value → H) :
    ReturnsInHanded {} Try.checked os 9 .any (Rows.fnExactLatticeInSpec.pre6 enc Try.prog Try.f9 Rows.fnExactLatticeInRow.domain false) (Rows.fnExactLatticeInSpec.post enc Try.prog Try.f9 false true false false) := by
  refine returnsInHanded_of_change (C := Try.checked) own started (by kernel_rfl) Try.func9
    (ChangeSpec.witness6 (enc := enc) (C := Try.checked) false ⟨#[], #[.slice none 0 0], []⟩ 8 (by kernel_rfl) (by kernel_rfl) (by kernel_rfl) (by kernel_rfl)) ?_
  intro W base args ds gs before hval0 hW hcnd _
  have hval : ∀ (j : Nat) t v, Try.f9.params[j]? = some t → args[j]? = some v → Value.okWide Try.prog W .any base t v := hval0
  have hW' := hW
  obtain ⟨p, q, hA0, hV, rfl, hfz, hnd⟩ := hW
  have hA : DataW.TrodAll enc Try.prog W 0 (fun _ => true) true Try.f9.params.toList args.toList ds p := hA0
  rw [Try.params9] at hA hval
  obtain ⟨v0, vs0, d0, ds0, p0, q0, hargs, rfl, rfl, h0, r0⟩ := trodAll_cons hA
  obtain ⟨rfl, rfl, rfl⟩ := trodAll_nil r0
  obtain rfl : args = #[v0] := by cases args; simp_all
  obtain ⟨rfl, rfl⟩ := trodVars_none hV
  obtain ⟨a0, len0, cap0, rfl⟩ := okWide_slice Try.underlying22 (hval 0 22 v0 rfl rfl)
  have k0 := h0
  have lt0 : ∀ x ∈ p0, x.block < W.heap.size := by obtain ⟨m, hm⟩ := k0; exact DataW.trod_lt m _ _ _ hm
  obtain ⟨z0, w0⟩ : ∃ zs, IsRow .i64 W a0 len0 cap0 zs := by
    obtain ⟨fuel, hf⟩ := h0
    rcases open_ints Try.underlying22 Try.underlying3 (by kernel_rfl) hf with ⟨hcs, _⟩ | ⟨x, l, c, zs, hcs, _, hl, hm, hz, _, hcell, hwz⟩
    · simp [Value.cells] at hcs
      obtain ⟨rfl, rfl, rfl⟩ := hcs
      exact ⟨[], .inl ⟨rfl, rfl, rfl, rfl⟩⟩
    · simp [Value.cells] at hcs
      obtain ⟨rfl, rfl, rfl⟩ := hcs
      exact ⟨zs, .inr ⟨_, rfl, hl, hm, by simpa using hz, hcell, hwz⟩⟩
  clear hA0 hval0
  refine (walk a0 len0 cap0 z0 W w0).mono fun e W' ⟨he, bel⟩ => ?_
  subst he
  exact ⟨_, rfl, _, _, _, [], _, [], hW', trodAll_mk1 (shut_bool Try.underlying4 _), (trodAll_cons_mk (Below.trod laidOut (by kernel_rfl) (of_decide_eq_true (by kernel_rfl)) k0 bel lt0) trodAll_mk0), rfl, bel.frame _, fun h => by cases h⟩

theorem closed : joinedFacts Try.checked.prog 9 Try.f9 Rows.fnExactLatticeInSpec Rows.fnExactLatticeInRow = true := by
  unfold joinedFacts
  rw [may, made, lifts]
  kernel_rfl

theorem over : Rows.fnExactLatticeInRow.holds Try.pinned (OpenSpec.ofChange Rows.fnExactLatticeInSpec) :=
  OpenClaim.holds_of_wide 9 Try.f9 rfl rfl rfl rfl rfl rfl rfl ⟨rfl, rfl, rfl, rfl, rfl⟩ rfl rfl rfl rfl rfl (by kernel_rfl) Try.func9 closed
    (of_decide_eq_true (by kernel_rfl)) (by unfold Func.isWrapper; first | (rw [if_pos (by decide +kernel)]; kernel_rfl) | (rw [if_neg (by decide +kernel)]; exact ⟨rfl, rfl⟩))
    (fun os started H enc _ => lifted os started H enc)

/-- The given statement. -/
theorem proved : Rows.FnExactLatticeInSaid := over
#print axioms proved

end Go.Proofs.Ytnjfmoplemappaa.fnExactLatticeIn
