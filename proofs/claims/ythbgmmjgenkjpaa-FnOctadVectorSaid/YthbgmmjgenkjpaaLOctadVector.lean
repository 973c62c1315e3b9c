/- Proves the given statement on laws.FnOctadVector: whatever the input, the law returns true and its input reads as it did. No conditions. -/
import Derived.Test.YthbgmmjgenkjpaaFr
import Derived.Test.YthbgmmjgenkjpaaWrd
import Derived.Test.YthbgmmjgenkjpaaWDrawX
import Derived.Test.YthbgmmjgenkjpaaLatW
import Derived.Test.YthbgmmjgenkjpaaWSame
import Derived.Test.YthbgmmjgenkjpaaWMark
set_option linter.unusedVariables false
namespace Go.Proofs.Ythbgmmjgenkjpaa.fnOctadVector
open Go.ChangeShapes Go.WideShapes Go.ChangeAt Go.RowKit
open Go.ChangeMaps (open_string shut_string)
open Res

theorem octOk_iff {n s : Int} (h : octOk n s = true) : (0 ≤ n ∧ n ≤ 16777215) ∧ codeB n.toNat = true ∧ wt n.toNat = 8 ∧ (0 ≤ s ∧ s ≤ 127) := by
  unfold octOk octB at h
  rw [Bool.and_eq_true, Bool.and_eq_true, Bool.and_eq_true, inB_iff, inB_iff, beq_iff_eq] at h
  exact ⟨h.1.1.1, h.1.1.2, h.1.2, h.2⟩

theorem walk (a0 : Option Addr) (len0 cap0 : Nat) (z0 : List Int) (w : World) (w0 : IsRow .u8 w a0 len0 cap0 z0) :
    Calls Try.prog 8 #[.slice a0 len0 cap0] w fun e w' => e = .returned (.bool true) ∧ Below w.heap.size w w' := by
  obtain ⟨hc, hlen⟩ := w0.code
  clear w0
  generalize z0.take len0 = l at *
  subst hlen
  by_cases hbig : 1048576 < l.length
  · go_enter Try.func8, Try.ntmps8
    go_wp2
    go_ret
    exact ⟨rfl, Below.refl _ _⟩
  · have hl : (l.length : Int) ≤ 1048576 := by omega
    go_enter Try.func8, Try.ntmps8
    go_wp2_with fail
    refine (DrawLatticeOctad_any _ _ l _ hc).mono ?_
    rintro e w1 ⟨n, s, rfl, hb1⟩
    cases hv : octOk n s
    · go_wp2_with fail
      refine (implLatticeOctad_no _ _ _ hv).mono ?_
      rintro e w2 ⟨v2, rfl, hO2, hs2⟩
      obtain ⟨a2, c2, rfl, hR2, hl2, hc2⟩ := hO2.shape
      have hb2 := hb1.trans (hs2.mono hb1.size)
      go_wp2_with fail
      refine (specLatticeOctad_no _ _ _ hv).mono ?_
      rintro e w3 ⟨v3, rfl, hO3, hs3⟩
      obtain ⟨a3, c3, rfl, hR3, hl3, hc3⟩ := hO3.shape
      have hb3 := hb2.trans (hs3.mono hb2.size)
      go_wp2_with fail
      refine (sameInts_same _ _ _ _ [] _ (by simp) (hR2.kept hs3) hR3).mono ?_
      rintro e w4 ⟨rfl, hs4⟩
      have hb4 := hb3.trans (hs4.mono hb3.size)
      go_wp2_with fail
      refine (sameInts_same _ _ _ _ [] _ (by simp) (hR2.kept (bel2 hs3 hs4)) (hR3.kept hs4)).mono ?_
      rintro e w5 ⟨rfl, hs5⟩
      have hb5 := hb4.trans (hs5.mono hb4.size)
      go_wp2_with fail
      go_ret
      exact ⟨rfl, hb5⟩
    · obtain ⟨hn, hcd, h8, hs⟩ := octOk_iff hv
      have F1 := octV_facts (n := n.toNat) (s := s.toNat) (by omega) hcd h8 (by omega)
      have F2 := octV_word (n := n.toNat) (s := s.toNat) (by omega) h8
      have C1 := Lib.hid (fun (w : World) => implLatticeOctad_ok n s w hv)
      have C2 := Lib.hid (fun (w : World) => specLatticeOctad_ok n s w hv)
      have hL24 : (octV n.toNat s.toNat).length = 24 := ocTo_length _ _ _
      have hL : (octV n.toNat s.toNat).length ≤ 24 := Nat.le_of_eq hL24
      generalize octV n.toNat s.toNat = L at *
      have C4 := Lib.hid (inner_c L L 32 (vec_of_lat F1.1) (vec_of_lat F1.1) F1.2)
      have C6 := Lib.hid (latIn_c L true hL F1.1)
      have HW : Hid (((wordP (fun i => decide (L.getD i 0 ≠ 0)) L.length : Nat) : Int) = n) := Lib.hid (by rw [hL24, F2]; omega)
      have HS := Lib.hid (fun k => wordP_bit (fun i => decide (L.getD i 0 ≠ 0)) k k)
      have HT : Hid (∀ k, L.getD k 0 ≠ 0 → wordP (fun i => decide (L.getD i 0 ≠ 0)) (k + 1) = wordP (fun i => decide (L.getD i 0 ≠ 0)) k ||| 2 ^ k) := Lib.hid (fun k h => by simp only [wordP]; rw [if_pos (decide_eq_true h)])
      have HU : Hid (∀ k, L.getD k 0 = 0 → wordP (fun i => decide (L.getD i 0 ≠ 0)) (k + 1) = wordP (fun i => decide (L.getD i 0 ≠ 0)) k) := Lib.hid (fun k h => by simp only [wordP]; rw [if_neg (by rw [decide_eq_true_eq]; exact fun h' => h' h)])
      have HV := Lib.hid (fun k => wordP_lt (fun i => decide (L.getD i 0 ≠ 0)) k)
      have H0 : Hid (wordP (fun i => decide (L.getD i 0 ≠ 0)) 0 = 0) := Lib.hid rfl
      generalize wordP (fun i => decide (L.getD i 0 ≠ 0)) = P at *
      clear F1 F2 hv hcd hs h8 hL24
      go_wp2_with fail
      refine (C1.out _).mono ?_
      rintro e w2 ⟨v2, rfl, hO2, hs2⟩
      obtain ⟨a2, c2, rfl, hR2, hl2, hc2⟩ := hO2.shape
      have hb2 := hb1.trans (hs2.mono hb1.size)
      go_wp2_with fail
      refine (C2.out _).mono ?_
      rintro e w3 ⟨v3, rfl, hO3, hs3⟩
      obtain ⟨a3, c3, rfl, hR3, hl3, hc3⟩ := hO3.shape
      have hb3 := hb2.trans (hs3.mono hb2.size)
      go_wp2_with fail
      refine (sameInts_same _ _ _ _ L _ (by omega) (hR2.kept hs3) hR3).mono ?_
      rintro e w4 ⟨rfl, hs4⟩
      have hb4 := hb3.trans (hs4.mono hb3.size)
      go_wp2_with fail
      refine (C4.out _ _ _ _ _ (hR2.kept (bel2 hs3 hs4)) (hR2.kept (bel2 hs3 hs4))).mono ?_
      rintro e w5 ⟨rfl, hs5⟩
      have hb5 := hb4.trans (hs5.mono hb4.size)
      have hRL := (hR2.kept (bel2 (bel2 hs3 hs4) hs5))
      go_wp2_with fail
      go_loop [11, 12] (fun s x => ∃ k : Nat, k ≤ L.length ∧ x = .int .i64 (k : Int) ∧ s = .int .i64 ((P k : Nat) : Int))
        (fun _ x => (L.length - (intOf x).toNat))
      case atStart => exact ⟨0, by omega, rfl, by rw [H0.out]; rfl⟩
      case round =>
        obtain ⟨k, hk, rfl, rfl⟩ := hrel
        by_cases hlt : k < L.length
        · have hki : (k : Int) < (L.length : Int) := by omega
          obtain ⟨b, off, ha, hbl, hcl⟩ := hRL k hlt
          have hlt24 : P k < 16777216 := Nat.lt_of_lt_of_le (HV.out k) (Nat.pow_le_pow_right (n := 2) (by omega) (show k ≤ 24 by omega))
          by_cases h0 : L.getD k 0 = 0
          · have D := Lib.hid (HU.out k h0)
            have e0 : (L.getD k 0 != 0) = false := by rw [h0]; rfl
            clear h0
            rw [getD_get hlt] at hcl e0
            generalize L[k] = y at *
            subst ha
            go_wp2_with fail
            go_round
            case rel => exact ⟨k + 1, by omega, by go_num, by rw [D.out]⟩
            case measure => simp [intOf]; omega
          · have D := Lib.hid (HT.out k h0)
            have e0 : (L.getD k 0 != 0) = true := by rw [bne_iff_ne]; exact h0
            have hbit : (P k).testBit k = false := by have := HS.out k; simpa using this
            have hor := (add_step (m := P k) (k := k) (by omega) (by omega)).trans (congrArg (Nat.cast : Nat → Int) (add_bit hbit))
            have HOR := Lib.hid hor
            clear h0 hor hbit
            rw [getD_get hlt] at hcl e0
            generalize L[k] = y at *
            subst ha
            go_wp2_with fail
            go_round
            case rel => exact ⟨k + 1, by omega, by go_num, by rw [D.out]; exact congrArg _ HOR.out⟩
            case measure => simp [intOf]; omega
        · obtain rfl : k = L.length := by omega
          have hPn : (((P L.length : Nat) : Int) == n) = true := by rw [HW.out]; exact beq_self_eq_true _
          clear hlt hk
          go_wp2_with fail
          refine (C6.out _ _ _ (hR2.kept (bel2 (bel2 hs3 hs4) hs5))).mono ?_
          rintro e w6 ⟨rfl, hs6⟩
          have hb6 := hb5.trans (hs6.mono hb5.size)
          go_wp2_with fail
          go_ret
          exact ⟨rfl, hb6⟩

set_option maxRecDepth 100000 in
theorem lifted (os : Os) (started : os.Started) (H : Type) (enc : TypeId × Value → H) :
    ReturnsInHanded {} Try.checked os 8 .any (Rows.fnOctadVectorSpec.pre6 enc Try.prog Try.f8 Rows.fnOctadVectorRow.domain false) (Rows.fnOctadVectorSpec.post enc Try.prog Try.f8 false true false false) := by
  refine returnsInHanded_of_change (C := Try.checked) own started (by kernel_rfl) Try.func8
    (ChangeSpec.witness6 (enc := enc) (C := Try.checked) false ⟨#[], #[.slice none 0 0], []⟩ 8 (by kernel_rfl) (by kernel_rfl) (by kernel_rfl) (by kernel_rfl)) ?_
  intro W base args ds gs before hval0 hW hcnd _
  have hval : ∀ (j : Nat) t v, Try.f8.params[j]? = some t → args[j]? = some v → Value.okWide Try.prog W .any base t v := hval0
  have hW' := hW
  obtain ⟨p, q, hA0, hV, rfl, hfz, hnd⟩ := hW
  have hA : DataW.TrodAll enc Try.prog W 0 (fun _ => true) true Try.f8.params.toList args.toList ds p := hA0
  rw [Try.params8] at hA hval
  obtain ⟨v0, vs0, d0, ds0, p0, q0, hargs, rfl, rfl, h0, r0⟩ := trodAll_cons hA
  obtain ⟨rfl, rfl, rfl⟩ := trodAll_nil r0
  obtain rfl : args = #[v0] := by cases args; simp_all
  obtain ⟨rfl, rfl⟩ := trodVars_none hV
  obtain ⟨a0, len0, cap0, rfl⟩ := okWide_slice Try.underlying22 (hval 0 22 v0 rfl rfl)
  have k0 := h0
  have lt0 : ∀ x ∈ p0, x.block < W.heap.size := by obtain ⟨m, hm⟩ := k0; exact DataW.trod_lt m _ _ _ hm
  obtain ⟨z0, w0⟩ : ∃ zs, IsRow .u8 W a0 len0 cap0 zs := by
    obtain ⟨fuel, hf⟩ := h0
    rcases open_ints Try.underlying22 Try.underlying5 (by kernel_rfl) hf with ⟨hcs, _⟩ | ⟨x, l, c, zs, hcs, _, hl, hm, hz, _, hcell, hwz⟩
    · simp [Value.cells] at hcs
      obtain ⟨rfl, rfl, rfl⟩ := hcs
      exact ⟨[], .inl ⟨rfl, rfl, rfl, rfl⟩⟩
    · simp [Value.cells] at hcs
      obtain ⟨rfl, rfl, rfl⟩ := hcs
      exact ⟨zs, .inr ⟨_, rfl, hl, hm, by simpa using hz, hcell, hwz⟩⟩
  clear hA0 hval0
  refine (walk a0 len0 cap0 z0 W w0).mono fun e W' ⟨he, bel⟩ => ?_
  subst he
  exact ⟨_, rfl, _, _, _, [], _, [], hW', trodAll_mk1 (shut_bool Try.underlying4 _), (trodAll_cons_mk (Below.trod laidOut (by kernel_rfl) (of_decide_eq_true (by kernel_rfl)) k0 bel lt0) trodAll_mk0), rfl, bel.frame _, fun h => by cases h⟩

theorem closed : joinedFacts Try.checked.prog 8 Try.f8 Rows.fnOctadVectorSpec Rows.fnOctadVectorRow = true := by
  unfold joinedFacts
  rw [may, made, lifts]
  kernel_rfl

theorem over : Rows.fnOctadVectorRow.holds Try.pinned (OpenSpec.ofChange Rows.fnOctadVectorSpec) :=
  OpenClaim.holds_of_wide 8 Try.f8 rfl rfl rfl rfl rfl rfl rfl ⟨rfl, rfl, rfl, rfl, rfl⟩ rfl rfl rfl rfl rfl (by kernel_rfl) Try.func8 closed
    (of_decide_eq_true (by kernel_rfl)) (by unfold Func.isWrapper; first | (rw [if_pos (by decide +kernel)]; kernel_rfl) | (rw [if_neg (by decide +kernel)]; exact ⟨rfl, rfl⟩))
    (fun os started H enc _ => lifted os started H enc)

/-- The given statement. -/
theorem proved : Rows.FnOctadVectorSaid := over
#print axioms proved

end Go.Proofs.Ythbgmmjgenkjpaa.fnOctadVector
