/- Proves the given statement on laws.FnInner: whatever the input, the law returns true and its input reads as it did. No conditions. -/
import Derived.Test.YthbgmmjgenkjpaaFr
import Derived.Test.YthbgmmjgenkjpaaWrd
import Derived.Test.YthbgmmjgenkjpaaWDrawX
import Derived.Test.YthbgmmjgenkjpaaLatW
import Derived.Test.YthbgmmjgenkjpaaWInner
import Derived.Test.YthbgmmjgenkjpaaWMark
set_option linter.unusedVariables false
namespace Go.Proofs.Ythbgmmjgenkjpaa.fnInner
open Go.ChangeShapes Go.WideShapes Go.ChangeAt Go.RowKit
open Go.ChangeMaps (open_string shut_string)
open Res

set_option maxHeartbeats 2000000 in
theorem walk (a0 : Option Addr) (len0 cap0 : Nat) (z0 : List Int) (w : World) (w0 : IsRow .u8 w a0 len0 cap0 z0) :
    Calls Try.prog 9 #[.slice a0 len0 cap0] w fun e w' => e = .returned (.bool true) ∧ Below w.heap.size w w' := by
  obtain ⟨hc, hlen⟩ := w0.code
  clear w0
  generalize z0.take len0 = l at *
  subst hlen
  by_cases hbig : 1048576 < l.length
  · go_enter Try.func9, Try.ntmps9
    go_wp2
    go_ret
    exact ⟨rfl, Below.refl _ _⟩
  · have hl : (l.length : Int) ≤ 1048576 := by omega
    go_enter Try.func9, Try.ntmps9
    go_wp2_with fail
    refine (DrawLatticeInner_any _ _ l _ hc).mono ?_
    rintro e w1 ⟨v1, L, v2, M, rfl, hO1, hL, hO2, hM, hb1⟩
    obtain ⟨a1, c1, rfl, hRa1, hl1, hc1⟩ := hO1.shape
    obtain ⟨a2, c2, rfl, hRb1, hl2, hc2⟩ := hO2.shape
    clear hO1 hO2
    cases hv : (vecOk L && vecOk M)
    · have C1 := Lib.hid (fun a b c d w hr hs => implLatticeInner_no a b c d L M w (by omega) (by omega) hr hs hv)
      have C2 := Lib.hid (fun a b c d w hr hs => specLatticeInner_no a b c d L M w (by omega) (by omega) hr hs hv)
      clear hv
      go_wp2_with fail
      refine (C1.out _ _ _ _ _ hRa1 hRb1).mono ?_
      rintro e w' ⟨rfl, rfl⟩
      go_wp2_with fail
      refine (C2.out _ _ _ _ _ hRa1 hRb1).mono ?_
      rintro e w' ⟨rfl, rfl⟩
      go_wp2_with fail
      go_ret
      exact ⟨rfl, hb1⟩
    · rw [Bool.and_eq_true] at hv
      obtain ⟨h1, h2⟩ := hv
      have C1 := Lib.hid (inner_c L M _ h1 h2 rfl)
      have C2 := Lib.hid (fun a b c d w hr hs => specLatticeInner_ok a b c d L M w hr hs h1 h2)
      have C3 := Lib.hid (inner_c M L _ h2 h1 (dotTo_comm M L 24))
      have C4 := Lib.hid (latIn_c L _ hL rfl)
      have C5 := Lib.hid (latIn_c M _ hM rfl)
      have C6 := Lib.hid (inner_c L L _ h1 h1 rfl)
      have C7 := Lib.hid (inner_c M M _ h2 h2 rfl)
      have hca := cauchy L M 24
      have p1 := dot_nonneg L 24
      have p2 := dot_nonneg M 24
      have h8 : latOk L = true → latOk M = true → dotTo L M 24 % 8 = 0 := fun x y => latP_dot (latP_of x) (latP_of y)
      generalize dotTo L L 24 = x at *
      generalize dotTo M M 24 = y at *
      generalize dotTo L M 24 = z at *
      have H8 := Lib.hid h8
      have HCA := Lib.hid hca
      clear h1 h2 h8 hca
      go_wp2_with fail
      refine (C1.out _ _ _ _ _ hRa1 hRb1).mono ?_
      rintro e w2 ⟨rfl, hs2⟩
      have hb2 := hb1.trans (hs2.mono hb1.size)
      go_wp2_with fail
      refine (C2.out _ _ _ _ _ (hRa1.kept hs2) (hRb1.kept hs2)).mono ?_
      rintro e w3 ⟨rfl, hs3⟩
      have hb3 := hb2.trans (hs3.mono hb2.size)
      go_wp2_with fail
      refine (C3.out _ _ _ _ _ (hRb1.kept (bel2 hs2 hs3)) (hRa1.kept (bel2 hs2 hs3))).mono ?_
      rintro e w4 ⟨rfl, hs4⟩
      have hb4 := hb3.trans (hs4.mono hb3.size)
      cases hA : latOk L
      · rw [hA] at C4
        go_wp2_with fail
        refine (C4.out _ _ _ (hRa1.kept (bel2 (bel2 hs2 hs3) hs4))).mono ?_
        rintro e w5 ⟨rfl, hs5⟩
        have hb5 := hb4.trans (hs5.mono hb4.size)
        go_wp2_with fail
        refine (C6.out _ _ _ _ _ (hRa1.kept (bel2 (bel2 (bel2 hs2 hs3) hs4) hs5)) (hRa1.kept (bel2 (bel2 (bel2 hs2 hs3) hs4) hs5))).mono ?_
        rintro e w6 ⟨rfl, hs6⟩
        have hb6 := hb5.trans (hs6.mono hb5.size)
        go_wp2_with fail
        refine (C7.out _ _ _ _ _ (hRb1.kept (bel2 (bel2 (bel2 (bel2 hs2 hs3) hs4) hs5) hs6)) (hRb1.kept (bel2 (bel2 (bel2 (bel2 hs2 hs3) hs4) hs5) hs6))).mono ?_
        rintro e w7 ⟨rfl, hs7⟩
        have hb7 := hb6.trans (hs7.mono hb6.size)
        by_cases s1 : x ≤ 24000000
        · by_cases s2 : y ≤ 24000000
          · have q1 := sq_pos z
            have q2 := HCA.out
            have q3 : x * y ≤ 24000000 * 24000000 := Int.mul_le_mul s1 s2 p2 (by omega)
            have w1 : IntKind.i64.wrap (z * z) = z * z := IntWalk.i64_in _ (by omega)
            have w2 : IntKind.i64.wrap (x * y) = x * y := IntWalk.i64_in _ (by omega)
            have d1 : decide (z * z ≤ x * y) = true := decide_eq_true q2
            clear q1 q2 q3
            go_wp2_with fail
            go_ret
            exact ⟨rfl, hb7⟩
          · go_wp2_with fail
            go_ret
            exact ⟨rfl, hb7⟩
        · go_wp2_with fail
          go_ret
          exact ⟨rfl, hb7⟩
      · rw [hA] at C4
        cases hB : latOk M
        · rw [hB] at C5
          go_wp2_with fail
          refine (C4.out _ _ _ (hRa1.kept (bel2 (bel2 hs2 hs3) hs4))).mono ?_
          rintro e w5 ⟨rfl, hs5⟩
          have hb5 := hb4.trans (hs5.mono hb4.size)
          go_wp2_with fail
          refine (C5.out _ _ _ (hRb1.kept (bel2 (bel2 (bel2 hs2 hs3) hs4) hs5))).mono ?_
          rintro e w6 ⟨rfl, hs6⟩
          have hb6 := hb5.trans (hs6.mono hb5.size)
          go_wp2_with fail
          refine (C6.out _ _ _ _ _ (hRa1.kept (bel2 (bel2 (bel2 (bel2 hs2 hs3) hs4) hs5) hs6)) (hRa1.kept (bel2 (bel2 (bel2 (bel2 hs2 hs3) hs4) hs5) hs6))).mono ?_
          rintro e w7 ⟨rfl, hs7⟩
          have hb7 := hb6.trans (hs7.mono hb6.size)
          go_wp2_with fail
          refine (C7.out _ _ _ _ _ (hRb1.kept (bel2 (bel2 (bel2 (bel2 (bel2 hs2 hs3) hs4) hs5) hs6) hs7)) (hRb1.kept (bel2 (bel2 (bel2 (bel2 (bel2 hs2 hs3) hs4) hs5) hs6) hs7))).mono ?_
          rintro e w8 ⟨rfl, hs8⟩
          have hb8 := hb7.trans (hs8.mono hb7.size)
          by_cases s1 : x ≤ 24000000
          · by_cases s2 : y ≤ 24000000
            · have q1 := sq_pos z
              have q2 := HCA.out
              have q3 : x * y ≤ 24000000 * 24000000 := Int.mul_le_mul s1 s2 p2 (by omega)
              have w1 : IntKind.i64.wrap (z * z) = z * z := IntWalk.i64_in _ (by omega)
              have w2 : IntKind.i64.wrap (x * y) = x * y := IntWalk.i64_in _ (by omega)
              have d1 : decide (z * z ≤ x * y) = true := decide_eq_true q2
              clear q1 q2 q3
              go_wp2_with fail
              go_ret
              exact ⟨rfl, hb8⟩
            · go_wp2_with fail
              go_ret
              exact ⟨rfl, hb8⟩
          · go_wp2_with fail
            go_ret
            exact ⟨rfl, hb8⟩
        · rw [hB] at C5
          have z8 := H8.out hA hB
          have z8t : z.tmod 8 = 0 := by
            rcases tmod_cases z 8 (by omega) with ⟨-, h⟩ | ⟨-, h⟩ <;> omega
          go_wp2_with fail
          refine (C4.out _ _ _ (hRa1.kept (bel2 (bel2 hs2 hs3) hs4))).mono ?_
          rintro e w5 ⟨rfl, hs5⟩
          have hb5 := hb4.trans (hs5.mono hb4.size)
          go_wp2_with fail
          refine (C5.out _ _ _ (hRb1.kept (bel2 (bel2 (bel2 hs2 hs3) hs4) hs5))).mono ?_
          rintro e w6 ⟨rfl, hs6⟩
          have hb6 := hb5.trans (hs6.mono hb5.size)
          go_wp2_with fail
          refine (C6.out _ _ _ _ _ (hRa1.kept (bel2 (bel2 (bel2 (bel2 hs2 hs3) hs4) hs5) hs6)) (hRa1.kept (bel2 (bel2 (bel2 (bel2 hs2 hs3) hs4) hs5) hs6))).mono ?_
          rintro e w7 ⟨rfl, hs7⟩
          have hb7 := hb6.trans (hs7.mono hb6.size)
          go_wp2_with fail
          refine (C7.out _ _ _ _ _ (hRb1.kept (bel2 (bel2 (bel2 (bel2 (bel2 hs2 hs3) hs4) hs5) hs6) hs7)) (hRb1.kept (bel2 (bel2 (bel2 (bel2 (bel2 hs2 hs3) hs4) hs5) hs6) hs7))).mono ?_
          rintro e w8 ⟨rfl, hs8⟩
          have hb8 := hb7.trans (hs8.mono hb7.size)
          by_cases s1 : x ≤ 24000000
          · by_cases s2 : y ≤ 24000000
            · have q1 := sq_pos z
              have q2 := HCA.out
              have q3 : x * y ≤ 24000000 * 24000000 := Int.mul_le_mul s1 s2 p2 (by omega)
              have w1 : IntKind.i64.wrap (z * z) = z * z := IntWalk.i64_in _ (by omega)
              have w2 : IntKind.i64.wrap (x * y) = x * y := IntWalk.i64_in _ (by omega)
              have d1 : decide (z * z ≤ x * y) = true := decide_eq_true q2
              clear q1 q2 q3
              go_wp2_with fail
              go_ret
              exact ⟨rfl, hb8⟩
            · go_wp2_with fail
              go_ret
              exact ⟨rfl, hb8⟩
          · go_wp2_with fail
            go_ret
            exact ⟨rfl, hb8⟩

set_option maxRecDepth 100000 in
theorem lifted (os : Os) (started : os.Started) (H : Type) (enc : TypeId × Value → H) :
    ReturnsInHanded {} Try.checked os 9 .any (Rows.fnInnerSpec.pre6 enc Try.prog Try.f9 Rows.fnInnerRow.domain false) (Rows.fnInnerSpec.post enc Try.prog Try.f9 false true false false) := by
  refine returnsInHanded_of_change (C := Try.checked) own started (by kernel_rfl) Try.func9
    (ChangeSpec.witness6 (enc := enc) (C := Try.checked) false ⟨#[], #[.slice none 0 0], []⟩ 8 (by kernel_rfl) (by kernel_rfl) (by kernel_rfl) (by kernel_rfl)) ?_
  intro W base args ds gs before hval0 hW hcnd _
  have hval : ∀ (j : Nat) t v, Try.f9.params[j]? = some t → args[j]? = some v → Value.okWide Try.prog W .any base t v := hval0
  have hW' := hW
  obtain ⟨p, q, hA0, hV, rfl, hfz, hnd⟩ := hW
  have hA : DataW.TrodAll enc Try.prog W 0 (fun _ => true) true Try.f9.params.toList args.toList ds p := hA0
  rw [Try.params9] at hA hval
  obtain ⟨v0, vs0, d0, ds0, p0, q0, hargs, rfl, rfl, h0, r0⟩ := trodAll_cons hA
  obtain ⟨rfl, rfl, rfl⟩ := trodAll_nil r0
  obtain rfl : args = #[v0] := by cases args; simp_all
  obtain ⟨rfl, rfl⟩ := trodVars_none hV
  obtain ⟨a0, len0, cap0, rfl⟩ := okWide_slice Try.underlying22 (hval 0 22 v0 rfl rfl)
  have k0 := h0
  have lt0 : ∀ x ∈ p0, x.block < W.heap.size := by obtain ⟨m, hm⟩ := k0; exact DataW.trod_lt m _ _ _ hm
  obtain ⟨z0, w0⟩ : ∃ zs, IsRow .u8 W a0 len0 cap0 zs := by
    obtain ⟨fuel, hf⟩ := h0
    rcases open_ints Try.underlying22 Try.underlying5 (by kernel_rfl) hf with ⟨hcs, _⟩ | ⟨x, l, c, zs, hcs, _, hl, hm, hz, _, hcell, hwz⟩
    · simp [Value.cells] at hcs
      obtain ⟨rfl, rfl, rfl⟩ := hcs
      exact ⟨[], .inl ⟨rfl, rfl, rfl, rfl⟩⟩
    · simp [Value.cells] at hcs
      obtain ⟨rfl, rfl, rfl⟩ := hcs
      exact ⟨zs, .inr ⟨_, rfl, hl, hm, by simpa using hz, hcell, hwz⟩⟩
  clear hA0 hval0
  refine (walk a0 len0 cap0 z0 W w0).mono fun e W' ⟨he, bel⟩ => ?_
  subst he
  exact ⟨_, rfl, _, _, _, [], _, [], hW', trodAll_mk1 (shut_bool Try.underlying4 _), (trodAll_cons_mk (Below.trod laidOut (by kernel_rfl) (of_decide_eq_true (by kernel_rfl)) k0 bel lt0) trodAll_mk0), rfl, bel.frame _, fun h => by cases h⟩

theorem closed : joinedFacts Try.checked.prog 9 Try.f9 Rows.fnInnerSpec Rows.fnInnerRow = true := by
  unfold joinedFacts
  rw [may, made, lifts]
  kernel_rfl

theorem over : Rows.fnInnerRow.holds Try.pinned (OpenSpec.ofChange Rows.fnInnerSpec) :=
  OpenClaim.holds_of_wide 9 Try.f9 rfl rfl rfl rfl rfl rfl rfl ⟨rfl, rfl, rfl, rfl, rfl⟩ rfl rfl rfl rfl rfl (by kernel_rfl) Try.func9 closed
    (of_decide_eq_true (by kernel_rfl)) (by unfold Func.isWrapper; first | (rw [if_pos (by decide +kernel)]; kernel_rfl) | (rw [if_neg (by decide +kernel)]; exact ⟨rfl, rfl⟩))
    (fun os started H enc _ => lifted os started H enc)

/-- The given statement. -/
theorem proved : Rows.FnInnerSaid := over
#print axioms proved

end Go.Proofs.Ythbgmmjgenkjpaa.fnInner
