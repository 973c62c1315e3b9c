/- Proves the given statement on laws.FnShape: whatever the input, the law returns true and its input reads as it did. No conditions. -/
import Derived.Test.YthbgmmjgenkjpaaFr
import Derived.Test.YthbgmmjgenkjpaaWrd
import Derived.Test.YthbgmmjgenkjpaaWDrawX
import Derived.Test.YthbgmmjgenkjpaaLatS
import Derived.Test.YthbgmmjgenkjpaaWShape
import Derived.Test.YthbgmmjgenkjpaaWSame
import Derived.Test.YthbgmmjgenkjpaaWMark
set_option linter.unusedVariables false
namespace Go.Proofs.Ythbgmmjgenkjpaa.fnShape
open Go.ChangeShapes Go.WideShapes Go.ChangeAt Go.RowKit
open Go.ChangeMaps (open_string shut_string)
open Res

set_option maxHeartbeats 1000000 in
theorem walk (a0 : Option Addr) (len0 cap0 : Nat) (z0 : List Int) (w : World) (w0 : IsRow .u8 w a0 len0 cap0 z0) :
    Calls Try.prog 13 #[.slice a0 len0 cap0] w fun e w' => e = .returned (.bool true) ∧ Below w.heap.size w w' := by
  obtain ⟨hc, hlen⟩ := w0.code
  clear w0
  generalize z0.take len0 = l at *
  subst hlen
  by_cases hbig : 1048576 < l.length
  · go_enter Try.func13, Try.ntmps13
    go_wp2
    go_ret
    exact ⟨rfl, Below.refl _ _⟩
  · have hl : (l.length : Int) ≤ 1048576 := by omega
    go_enter Try.func13, Try.ntmps13
    go_wp2_with fail
    refine (DrawLatticeShape_any _ _ l _ hc).mono ?_
    rintro e w1 ⟨v1, M, rfl, hO1, hM, hb1⟩
    obtain ⟨a1, c1, rfl, hR1, hl1, hc1⟩ := hO1.shape
    clear hO1
    cases hv : vecOk M
    · have C1 := Lib.hid (fun a c w hr => implLatticeShape_no a c M w (by omega) hr hv)
      have C2 := Lib.hid (fun a c w hr => specLatticeShape_no a c M w (by omega) hr hv)
      clear hv
      go_wp2_with fail
      refine (C1.out _ _ _ hR1).mono ?_
      rintro e w2 ⟨v2, rfl, hO2, hs2⟩
      obtain ⟨a2, c2, rfl, hR2, hl2, hc2⟩ := hO2.shape
      have hb2 := hb1.trans (hs2.mono hb1.size)
      go_wp2_with fail
      refine (C2.out _ _ _ (hR1.kept hs2)).mono ?_
      rintro e w3 ⟨v3, rfl, hO3, hs3⟩
      obtain ⟨a3, c3, rfl, hR3, hl3, hc3⟩ := hO3.shape
      have hb3 := hb2.trans (hs3.mono hb2.size)
      go_wp2_with fail
      refine (sameInts_same _ _ _ _ [] _ (by simp) (hR2.kept hs3) hR3).mono ?_
      rintro e w4 ⟨rfl, hs4⟩
      have hb4 := hb3.trans (hs4.mono hb3.size)
      go_wp2_with fail
      refine (sameInts_same _ _ _ _ [] _ (by simp) (hR2.kept (bel2 hs3 hs4)) (hR3.kept hs4)).mono ?_
      rintro e w5 ⟨rfl, hs5⟩
      have hb5 := hb4.trans (hs5.mono hb4.size)
      go_wp2_with fail
      go_ret
      exact ⟨rfl, hb5⟩
    · have C1 := Lib.hid (fun a c w hr => implLatticeShape_ok a c M w hr hv)
      have C2 := Lib.hid (fun a c w hr => specLatticeShape_ok a c M w hr hv)
      have hsv := shape_vec hv
      have HD : Hid (dotTo (shapeV M) (shapeV M) (shapeV M).length = dotTo M M 24) := Lib.hid (by rw [shapeV_length]; exact shape_dot M)
      have H24 : Hid ((((shapeV M).length : Int) == 24) = true) := Lib.hid (by rw [shapeV_length]; rfl)
      have HS : Hid (∀ k, dotTo (shapeV M) (shapeV M) (k + 1) = dotTo (shapeV M) (shapeV M) k + (shapeV M).getD k 0 * (shapeV M).getD k 0) := Lib.hid (fun _ => rfl)
      have H0 : Hid (dotTo (shapeV M) (shapeV M) 0 = 0) := Lib.hid rfl
      have HB := Lib.hid (fun k => dotTo_bd hsv hsv k)
      have HG := Lib.hid (fun k => vecOk_get hsv k)
      have HN := Lib.hid (fun k (hk : k < 24) => shape_nonneg M hk)
      have HI := Lib.hid (fun k (hk : k + 1 < 24) => shape_order M hk)
      have C3 := Lib.hid (inner_c M M _ hv hv rfl)
      have hS : (shapeV M).length ≤ 24 := Nat.le_of_eq (shapeV_length M)
      generalize shapeV M = S at *
      generalize dotTo M M 24 = y at *
      generalize dotTo S S = D at *
      clear hv hsv
      go_wp2_with fail
      refine (C1.out _ _ _ hR1).mono ?_
      rintro e w2 ⟨v2, rfl, hO2, hs2⟩
      obtain ⟨a2, c2, rfl, hR2, hl2, hc2⟩ := hO2.shape
      have hb2 := hb1.trans (hs2.mono hb1.size)
      go_wp2_with fail
      refine (C2.out _ _ _ (hR1.kept hs2)).mono ?_
      rintro e w3 ⟨v3, rfl, hO3, hs3⟩
      obtain ⟨a3, c3, rfl, hR3, hl3, hc3⟩ := hO3.shape
      have hb3 := hb2.trans (hs3.mono hb2.size)
      go_wp2_with fail
      refine (sameInts_same _ _ _ _ S _ (by omega) (hR2.kept hs3) hR3).mono ?_
      rintro e w4 ⟨rfl, hs4⟩
      have hb4 := hb3.trans (hs4.mono hb3.size)
      go_wp2_with fail
      refine (C3.out _ _ _ _ _ (hR1.kept (bel2 (bel2 hs2 hs3) hs4)) (hR1.kept (bel2 (bel2 hs2 hs3) hs4))).mono ?_
      rintro e w5 ⟨rfl, hs5⟩
      have hb5 := hb4.trans (hs5.mono hb4.size)
      have hRS := (hR2.kept (bel2 (bel2 hs3 hs4) hs5))
      go_wp2_with fail
      go_loopw [10, 11] (fun s x wr => ∃ k : Nat, k ≤ S.length ∧ x = .int .i64 (k : Int) ∧ s = .int .i64 (D k) ∧ ∃ n, wr = w5.drewN n)
        (fun _ x _ => (S.length - (intOf x).toNat))
      case atStart => exact ⟨0, by omega, rfl, by rw [H0.out], 0, rfl⟩
      case round =>
        obtain ⟨k, hk, rfl, rfl, nd, rfl⟩ := hrel
        by_cases hlt : k < S.length
        · have hki : (k : Int) < (S.length : Int) := by omega
          obtain ⟨b, off, ha, hbl, hcl⟩ := hRS k hlt
          have hst := HS.out k
          have hbd := HB.out k
          have hg := HG.out k
          have hp := prod_bd hg hg
          have h0 := HN.out k (by omega)
          have hprev := fun q (e : q + 1 = k) => HI.out q (by omega)
          have hcq : ∀ q, q + 1 = k → w5.cell? ⟨b, off + q, none⟩ = some (.int .i64 (S.getD q 0)) := fun q e => by
            obtain ⟨b', off', ha', -, h⟩ := hRS q (by omega)
            rw [ha] at ha'
            simp only [Option.some.injEq, Addr.mk.injEq, and_true] at ha'
            obtain ⟨rfl, rfl⟩ := ha'
            exact h
          subst ha
          rw [getD_get hlt] at hcl hst hg hp h0
          have HST := Lib.hid hst
          clear hst
          have hw1 : IntKind.i64.wrap (S[k] * S[k]) = S[k] * S[k] := IntWalk.i64_in _ (by omega)
          have hw2 : IntKind.i64.wrap (D k + S[k] * S[k]) = D k + S[k] * S[k] := IntWalk.i64_in _ (by omega)
          have hnn : decide (S[k] < 0) = false := by rw [decide_eq_false_iff_not]; omega
          by_cases hz : k = 0
          · subst hz
            clear hprev hcq
            rw [Nat.add_zero] at hcl
            generalize S[0] = x at *
            generalize D 0 = d at *
            go_wp2
            go_quiet (fail)
            clear hw1 hw2
            go_wp2
            go_quiet (fail)
            go_wp2
            go_roundw
            case rel => exact ⟨0 + 1, by omega, by go_num, by rw [HST.out], _, rfl⟩
            case measure => simp [intOf]; omega
          · obtain ⟨q, rfl⟩ : ∃ q, k = q + 1 := ⟨k - 1, by omega⟩
            have hc2 := hcq q rfl
            have hord := hprev q rfl
            rw [getD_get hlt] at hord
            clear hprev hcq hz
            generalize S[q + 1] = x at *
            generalize S.getD q 0 = x2 at *
            generalize D (q + 1) = d at *
            have hno : decide (x < x2) = false := by rw [decide_eq_false_iff_not]; omega
            have hq1 : (q : Int) < (S.length : Int) := by omega
            have hw65 : IntKind.i64.wrap (q : Int) = (q : Int) := wrap_nat q (by omega)
            go_wp2
            go_quiet (fail)
            clear hw1 hw2
            go_wp2
            go_quiet (fail)
            go_wp2
            go_roundw
            case rel => exact ⟨q + 1 + 1, by omega, by go_num, by rw [HST.out], _, rfl⟩
            case measure => simp [intOf]; omega
        · obtain rfl : k = S.length := by omega
          have h1 := HD.out
          have h2 := H24.out
          clear hlt hk
          generalize D S.length = d at *
          subst h1
          go_wp2_with fail
          go_ret
          exact ⟨rfl, below_drewN hb5 _⟩

set_option maxRecDepth 100000 in
theorem lifted (os : Os) (started : os.Started) (H : Type) (enc : TypeId × Value → H) :
    ReturnsInHanded {} Try.checked os 13 .any (Rows.fnShapeSpec.pre6 enc Try.prog Try.f13 Rows.fnShapeRow.domain false) (Rows.fnShapeSpec.post enc Try.prog Try.f13 false true false false) := by
  refine returnsInHanded_of_change (C := Try.checked) own started (by kernel_rfl) Try.func13
    (ChangeSpec.witness6 (enc := enc) (C := Try.checked) false ⟨#[], #[.slice none 0 0], []⟩ 8 (by kernel_rfl) (by kernel_rfl) (by kernel_rfl) (by kernel_rfl)) ?_
  intro W base args ds gs before hval0 hW hcnd _
  have hval : ∀ (j : Nat) t v, Try.f13.params[j]? = some t → args[j]? = some v → Value.okWide Try.prog W .any base t v := hval0
  have hW' := hW
  obtain ⟨p, q, hA0, hV, rfl, hfz, hnd⟩ := hW
  have hA : DataW.TrodAll enc Try.prog W 0 (fun _ => true) true Try.f13.params.toList args.toList ds p := hA0
  rw [Try.params13] at hA hval
  obtain ⟨v0, vs0, d0, ds0, p0, q0, hargs, rfl, rfl, h0, r0⟩ := trodAll_cons hA
  obtain ⟨rfl, rfl, rfl⟩ := trodAll_nil r0
  obtain rfl : args = #[v0] := by cases args; simp_all
  obtain ⟨rfl, rfl⟩ := trodVars_none hV
  obtain ⟨a0, len0, cap0, rfl⟩ := okWide_slice Try.underlying22 (hval 0 22 v0 rfl rfl)
  have k0 := h0
  have lt0 : ∀ x ∈ p0, x.block < W.heap.size := by obtain ⟨m, hm⟩ := k0; exact DataW.trod_lt m _ _ _ hm
  obtain ⟨z0, w0⟩ : ∃ zs, IsRow .u8 W a0 len0 cap0 zs := by
    obtain ⟨fuel, hf⟩ := h0
    rcases open_ints Try.underlying22 Try.underlying5 (by kernel_rfl) hf with ⟨hcs, _⟩ | ⟨x, l, c, zs, hcs, _, hl, hm, hz, _, hcell, hwz⟩
    · simp [Value.cells] at hcs
      obtain ⟨rfl, rfl, rfl⟩ := hcs
      exact ⟨[], .inl ⟨rfl, rfl, rfl, rfl⟩⟩
    · simp [Value.cells] at hcs
      obtain ⟨rfl, rfl, rfl⟩ := hcs
      exact ⟨zs, .inr ⟨_, rfl, hl, hm, by simpa using hz, hcell, hwz⟩⟩
  clear hA0 hval0
  refine (walk a0 len0 cap0 z0 W w0).mono fun e W' ⟨he, bel⟩ => ?_
  subst he
  exact ⟨_, rfl, _, _, _, [], _, [], hW', trodAll_mk1 (shut_bool Try.underlying4 _), (trodAll_cons_mk (Below.trod laidOut (by kernel_rfl) (of_decide_eq_true (by kernel_rfl)) k0 bel lt0) trodAll_mk0), rfl, bel.frame _, fun h => by cases h⟩

theorem closed : joinedFacts Try.checked.prog 13 Try.f13 Rows.fnShapeSpec Rows.fnShapeRow = true := by
  unfold joinedFacts
  rw [may, made, lifts]
  kernel_rfl

theorem over : Rows.fnShapeRow.holds Try.pinned (OpenSpec.ofChange Rows.fnShapeSpec) :=
  OpenClaim.holds_of_wide 13 Try.f13 rfl rfl rfl rfl rfl rfl rfl ⟨rfl, rfl, rfl, rfl, rfl⟩ rfl rfl rfl rfl rfl (by kernel_rfl) Try.func13 closed
    (of_decide_eq_true (by kernel_rfl)) (by unfold Func.isWrapper; first | (rw [if_pos (by decide +kernel)]; kernel_rfl) | (rw [if_neg (by decide +kernel)]; exact ⟨rfl, rfl⟩))
    (fun os started H enc _ => lifted os started H enc)

/-- The given statement. -/
theorem proved : Rows.FnShapeSaid := over
#print axioms proved

end Go.Proofs.Ythbgmmjgenkjpaa.fnShape
