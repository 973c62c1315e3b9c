/- Proves the given statement on laws.FnExactLatticeOctad: whatever the input, the law returns true and its input reads as it did. No conditions. -/
import Derived.Test.YtnjfmoplemappaaFr
import Derived.Test.YtnjfmoplemappaaWrd
import Derived.Test.YtnjfmoplemappaaWOctV
import Derived.Test.YtnjfmoplemappaaWEq
import Derived.Test.YtnjfmoplemappaaWMark
set_option linter.unusedVariables false
namespace Go.Proofs.Ytnjfmoplemappaa.fnExactLatticeOctad
open Go.ChangeShapes Go.WideShapes Go.ChangeAt Go.RowKit
open Go.ChangeMaps (open_string shut_string)
open Res

theorem walk (a0 a1 : Int) (w : World) (w0 : (Lit.int .i64 a0).wf = true) (w1 : (Lit.int .i64 a1).wf = true) :
    Calls Try.prog 10 #[.int .i64 a0, .int .i64 a1] w fun e w' => e = .returned (.bool true) ∧ Below w.heap.size w w' := by
  clear w0 w1
  have hb0 := Below.refl w.heap.size w
  cases hv : octOk a0 a1
  · have hlen : ([] : List Int).length ≤ 24 := by simp
    go_enter Try.func10, Try.ntmps10
    go_wp2_with fail
    refine (specLatticeOctad_no _ _ _ hv).mono ?_
    rintro e w1 ⟨v1, rfl, hO1, hs1⟩
    obtain ⟨a1, c1, rfl, hR1, hl1, hc1⟩ := hO1.shape
    have hb1 := hb0.trans (hs1.mono hb0.size)
    go_wp2_with fail
    refine (implLatticeOctad_no _ _ _ hv).mono ?_
    rintro e w2 ⟨v2, rfl, hO2, hs2⟩
    obtain ⟨a2, c2, rfl, hR2, hl2, hc2⟩ := hO2.shape
    have hb2 := hb1.trans (hs2.mono hb1.size)
    have ht1 := Below.refl w1.heap.size w1
    have ht2 := ht1.trans (hs2.mono ht1.size)
    go_wp2_with fail
    refine (eqIntS_any _ _ _ _ [] [] _ (by omega) (by omega) hR2 (hR1.kept ht2)).mono ?_
    rintro e w3 ⟨rfl, hs3⟩
    have hb3 := hb2.trans (hs3.mono hb2.size)
    have ht3 := ht2.trans (hs3.mono ht2.size)
    go_wp2_with fail
    refine (markIntS_any _ _ _ [] 1 _ (by omega) (by omega) (by omega) (hO2.kept hs3)).mono ?_
    rintro e w4 ⟨rfl, hO4, hs4, -⟩
    have hb4 := hb3.trans (hs4.mono hb1.size)
    have ht4 := ht3.trans (hs4.mono ht1.size)
    have hM := hO4.reads.1
    go_wp2_with fail
    refine (heldIntS_any _ _ _ 1 _ (by omega) (by omega) (by omega) hM).mono ?_
    rintro e w' ⟨rfl, rfl⟩
    go_wp2_with fail
    refine (implLatticeOctad_no _ _ _ hv).mono ?_
    rintro e w5 ⟨v5, rfl, hO5, hs5⟩
    obtain ⟨a5, c5, rfl, hR5, hl5, hc5⟩ := hO5.shape
    have hb5 := hb4.trans (hs5.mono hb4.size)
    have ht5 := ht4.trans (hs5.mono ht4.size)
    go_wp2_with fail
    refine (eqIntS_any _ _ _ _ [] [] _ (by omega) (by omega) hR5 (hR1.kept ht5)).mono ?_
    rintro e w6 ⟨rfl, hs6⟩
    have hb6 := hb5.trans (hs6.mono hb5.size)
    go_wp2_with fail
    refine (heldIntS_any _ _ _ 1 _ (by omega) (by omega) (by omega) ((hM.kept hs5).kept hs6)).mono ?_
    rintro e w' ⟨rfl, rfl⟩
    go_wp2_with fail
    go_ret
    exact ⟨rfl, hb6⟩
  · have hlen : (octV a0.toNat a1.toNat).length ≤ 24 := by unfold octV; rw [ocTo_length]; omega
    have C1 := Lib.hid (fun (w : World) => specLatticeOctad_ok a0 a1 w hv)
    have C2 := Lib.hid (fun (w : World) => implLatticeOctad_ok a0 a1 w hv)
    generalize octV a0.toNat a1.toNat = L at *
    go_enter Try.func10, Try.ntmps10
    go_wp2_with fail
    refine (C1.out _).mono ?_
    rintro e w1 ⟨v1, rfl, hO1, hs1⟩
    obtain ⟨a1, c1, rfl, hR1, hl1, hc1⟩ := hO1.shape
    have hb1 := hb0.trans (hs1.mono hb0.size)
    go_wp2_with fail
    refine (C2.out _).mono ?_
    rintro e w2 ⟨v2, rfl, hO2, hs2⟩
    obtain ⟨a2, c2, rfl, hR2, hl2, hc2⟩ := hO2.shape
    have hb2 := hb1.trans (hs2.mono hb1.size)
    have ht1 := Below.refl w1.heap.size w1
    have ht2 := ht1.trans (hs2.mono ht1.size)
    go_wp2_with fail
    refine (eqIntS_any _ _ _ _ L L _ (by omega) (by omega) hR2 (hR1.kept ht2)).mono ?_
    rintro e w3 ⟨rfl, hs3⟩
    have hb3 := hb2.trans (hs3.mono hb2.size)
    have ht3 := ht2.trans (hs3.mono ht2.size)
    go_wp2_with fail
    refine (markIntS_any _ _ _ L 1 _ (by omega) (by omega) (by omega) (hO2.kept hs3)).mono ?_
    rintro e w4 ⟨rfl, hO4, hs4, -⟩
    have hb4 := hb3.trans (hs4.mono hb1.size)
    have ht4 := ht3.trans (hs4.mono ht1.size)
    have hM := hO4.reads.1
    go_wp2_with fail
    refine (heldIntS_any _ _ _ 1 _ (by omega) (by omega) (by omega) hM).mono ?_
    rintro e w' ⟨rfl, rfl⟩
    go_wp2_with fail
    refine (C2.out _).mono ?_
    rintro e w5 ⟨v5, rfl, hO5, hs5⟩
    obtain ⟨a5, c5, rfl, hR5, hl5, hc5⟩ := hO5.shape
    have hb5 := hb4.trans (hs5.mono hb4.size)
    have ht5 := ht4.trans (hs5.mono ht4.size)
    go_wp2_with fail
    refine (eqIntS_any _ _ _ _ L L _ (by omega) (by omega) hR5 (hR1.kept ht5)).mono ?_
    rintro e w6 ⟨rfl, hs6⟩
    have hb6 := hb5.trans (hs6.mono hb5.size)
    go_wp2_with fail
    refine (heldIntS_any _ _ _ 1 _ (by omega) (by omega) (by omega) ((hM.kept hs5).kept hs6)).mono ?_
    rintro e w' ⟨rfl, rfl⟩
    go_wp2_with fail
    go_ret
    exact ⟨rfl, hb6⟩

set_option maxRecDepth 100000 in
theorem lifted (os : Os) (started : os.Started) (H : Type) (enc : TypeId × Value → H) :
    ReturnsInHanded {} Try.checked os 10 .any (Rows.fnExactLatticeOctadSpec.pre6 enc Try.prog Try.f10 Rows.fnExactLatticeOctadRow.domain false) (Rows.fnExactLatticeOctadSpec.post enc Try.prog Try.f10 false true false false) := by
  refine returnsInHanded_of_change (C := Try.checked) own started (by kernel_rfl) Try.func10
    (ChangeSpec.witness6 (enc := enc) (C := Try.checked) false ⟨#[], #[.int .i64 0, .int .i64 0], []⟩ 8 (by kernel_rfl) (by kernel_rfl) (by kernel_rfl) (by kernel_rfl)) ?_
  intro W base args ds gs before hval0 hW hcnd _
  have hval : ∀ (j : Nat) t v, Try.f10.params[j]? = some t → args[j]? = some v → Value.okWide Try.prog W .any base t v := hval0
  have hW' := hW
  obtain ⟨p, q, hA0, hV, rfl, hfz, hnd⟩ := hW
  have hA : DataW.TrodAll enc Try.prog W 0 (fun _ => true) true Try.f10.params.toList args.toList ds p := hA0
  rw [Try.params10] at hA hval
  obtain ⟨v0, vs0, d0, ds0, p0, q0, hargs, rfl, rfl, h0, r0⟩ := trodAll_cons hA
  obtain ⟨v1, vs1, d1, ds1, p1, q1, rfl, rfl, rfl, h1, r1⟩ := trodAll_cons r0
  obtain ⟨rfl, rfl, rfl⟩ := trodAll_nil r1
  obtain rfl : args = #[v0, v1] := by cases args; simp_all
  obtain ⟨rfl, rfl⟩ := trodVars_none hV
  obtain ⟨a0, rfl, rfl, rfl, w0⟩ := open_int Try.underlying3 (hval 0 3 v0 rfl rfl) h0
  obtain ⟨a1, rfl, rfl, rfl, w1⟩ := open_int Try.underlying3 (hval 1 3 v1 rfl rfl) h1
  clear hA0 hval0
  refine (walk a0 a1 W w0 w1).mono fun e W' ⟨he, bel⟩ => ?_
  subst he
  exact ⟨_, rfl, _, _, _, [], _, [], hW', trodAll_mk1 (shut_bool Try.underlying4 _), (trodAll_cons_mk (shut_int Try.underlying3 w0) (trodAll_cons_mk (shut_int Try.underlying3 w1) trodAll_mk0)), rfl, bel.frame _, fun h => by cases h⟩

theorem closed : joinedFacts Try.checked.prog 10 Try.f10 Rows.fnExactLatticeOctadSpec Rows.fnExactLatticeOctadRow = true := by
  unfold joinedFacts
  rw [may, made, lifts]
  kernel_rfl

theorem over : Rows.fnExactLatticeOctadRow.holds Try.pinned (OpenSpec.ofChange Rows.fnExactLatticeOctadSpec) :=
  OpenClaim.holds_of_wide 10 Try.f10 rfl rfl rfl rfl rfl rfl rfl ⟨rfl, rfl, rfl, rfl, rfl⟩ rfl rfl rfl rfl rfl (by kernel_rfl) Try.func10 closed
    (of_decide_eq_true (by kernel_rfl)) (by unfold Func.isWrapper; first | (rw [if_pos (by decide +kernel)]; kernel_rfl) | (rw [if_neg (by decide +kernel)]; exact ⟨rfl, rfl⟩))
    (fun os started H enc _ => lifted os started H enc)

/-- The given statement. -/
theorem proved : Rows.FnExactLatticeOctadSaid := over
#print axioms proved

end Go.Proofs.Ytnjfmoplemappaa.fnExactLatticeOctad
