/- Proves the given statement on laws.FnThree: whatever the input, the law returns true and its input reads as it did. No conditions. -/
import Derived.Test.YthbgmmjgenkjpaaFr
import Derived.Test.YthbgmmjgenkjpaaWrd
import Derived.Test.YthbgmmjgenkjpaaWDrawV
import Derived.Test.YthbgmmjgenkjpaaLatW
import Derived.Test.YthbgmmjgenkjpaaWSame
import Derived.Test.YthbgmmjgenkjpaaWMark
set_option linter.unusedVariables false
namespace Go.Proofs.Ythbgmmjgenkjpaa.fnThree
open Go.ChangeShapes Go.WideShapes Go.ChangeAt Go.RowKit
open Go.ChangeMaps (open_string shut_string)
open Res

theorem threeOk_iff {n p : Int} (h : threeOk n p = true) : (0 ≤ n ∧ n ≤ 16777215) ∧ codeB n.toNat = true ∧ (0 ≤ p ∧ p ≤ 23) := by
  unfold threeOk at h
  rw [Bool.and_eq_true, Bool.and_eq_true, inB_iff, inB_iff] at h
  exact ⟨h.1.1, h.1.2, h.2⟩

theorem walk (a0 : Option Addr) (len0 cap0 : Nat) (z0 : List Int) (w : World) (w0 : IsRow .u8 w a0 len0 cap0 z0) :
    Calls Try.prog 6 #[.slice a0 len0 cap0] w fun e w' => e = .returned (.bool true) ∧ Below w.heap.size w w' := by
  obtain ⟨hc, hlen⟩ := w0.code
  clear w0
  generalize z0.take len0 = l at *
  subst hlen
  by_cases hbig : 1048576 < l.length
  · go_enter Try.func6, Try.ntmps6
    go_wp2
    go_ret
    exact ⟨rfl, Below.refl _ _⟩
  · have hl : (l.length : Int) ≤ 1048576 := by omega
    go_enter Try.func6, Try.ntmps6
    go_wp2_with fail
    refine (DrawLatticeThree_any _ _ l _ hc).mono ?_
    rintro e w1 ⟨n, p, rfl, hb1⟩
    cases hv : threeOk n p
    · go_wp2_with fail
      refine (implLatticeThree_no _ _ _ hv).mono ?_
      rintro e w2 ⟨v2, rfl, hO2, hs2⟩
      obtain ⟨a2, c2, rfl, hR2, hl2, hc2⟩ := hO2.shape
      have hb2 := hb1.trans (hs2.mono hb1.size)
      go_wp2_with fail
      refine (specLatticeThree_no _ _ _ hv).mono ?_
      rintro e w3 ⟨v3, rfl, hO3, hs3⟩
      obtain ⟨a3, c3, rfl, hR3, hl3, hc3⟩ := hO3.shape
      have hb3 := hb2.trans (hs3.mono hb2.size)
      go_wp2_with fail
      refine (sameInts_same _ _ _ _ [] _ (by simp) (hR2.kept hs3) hR3).mono ?_
      rintro e w4 ⟨rfl, hs4⟩
      have hb4 := hb3.trans (hs4.mono hb3.size)
      go_wp2_with fail
      refine (sameInts_same _ _ _ _ [] _ (by simp) (hR2.kept (bel2 hs3 hs4)) (hR3.kept hs4)).mono ?_
      rintro e w5 ⟨rfl, hs5⟩
      have hb5 := hb4.trans (hs5.mono hb4.size)
      go_wp2_with fail
      go_ret
      exact ⟨rfl, hb5⟩
    · obtain ⟨hn, hcd, hp⟩ := threeOk_iff hv
      have hv0 : threeOk 0 p = true := by
        unfold threeOk
        rw [inB_true hp.1 hp.2]
        exact congrArg (fun b => (true && b) && true) codeB_zero
      have F1 := threeL_facts (n := n.toNat) (p := p.toNat) (by omega) hcd (by omega)
      have F2 := threeL_facts (n := (0 : Int).toNat) (p := p.toNat) (by decide) codeB_zero (by omega)
      have C1 := Lib.hid (fun (w : World) => implLatticeThree_ok n p w hv)
      have C2 := Lib.hid (fun (w : World) => specLatticeThree_ok n p w hv)
      have C3 := Lib.hid (fun (w : World) => implLatticeThree_ok 0 p w hv0)
      have hL : (threeL n.toNat p.toNat).length ≤ 24 := Nat.le_of_eq (flipV_length _ _)
      have hM : (threeL (0 : Int).toNat p.toNat).length ≤ 24 := Nat.le_of_eq (flipV_length _ _)
      generalize threeL n.toNat p.toNat = L at *
      generalize threeL (0 : Int).toNat p.toNat = M at *
      have hd := latP_dot (latP_of F1.1) (latP_of F2.1)
      have C4 := Lib.hid (inner_c L L 32 (vec_of_lat F1.1) (vec_of_lat F1.1) F1.2)
      have C5 := Lib.hid (inner_c L M _ (vec_of_lat F1.1) (vec_of_lat F2.1) rfl)
      have C6 := Lib.hid (latIn_c L true hL F1.1)
      generalize dotTo L M 24 = y at *
      have hd2 : y.tmod 8 = 0 := by
        rcases tmod_cases y 8 (by omega) with ⟨-, h⟩ | ⟨-, h⟩ <;> omega
      clear F1 F2 hv hv0 hcd hn hp
      go_wp2_with fail
      refine (C1.out _).mono ?_
      rintro e w2 ⟨v2, rfl, hO2, hs2⟩
      obtain ⟨a2, c2, rfl, hR2, hl2, hc2⟩ := hO2.shape
      have hb2 := hb1.trans (hs2.mono hb1.size)
      go_wp2_with fail
      refine (C2.out _).mono ?_
      rintro e w3 ⟨v3, rfl, hO3, hs3⟩
      obtain ⟨a3, c3, rfl, hR3, hl3, hc3⟩ := hO3.shape
      have hb3 := hb2.trans (hs3.mono hb2.size)
      go_wp2_with fail
      refine (sameInts_same _ _ _ _ L _ (by omega) (hR2.kept hs3) hR3).mono ?_
      rintro e w4 ⟨rfl, hs4⟩
      have hb4 := hb3.trans (hs4.mono hb3.size)
      go_wp2_with fail
      refine (C4.out _ _ _ _ _ (hR2.kept (bel2 hs3 hs4)) (hR2.kept (bel2 hs3 hs4))).mono ?_
      rintro e w5 ⟨rfl, hs5⟩
      have hb5 := hb4.trans (hs5.mono hb4.size)
      go_wp2_with fail
      refine (C3.out _).mono ?_
      rintro e w6 ⟨v6, rfl, hO6, hs6⟩
      obtain ⟨a6, c6, rfl, hR6, hl6, hc6⟩ := hO6.shape
      have hb6 := hb5.trans (hs6.mono hb5.size)
      go_wp2_with fail
      refine (C5.out _ _ _ _ _ (hR2.kept (bel2 (bel2 (bel2 hs3 hs4) hs5) hs6)) hR6).mono ?_
      rintro e w7 ⟨rfl, hs7⟩
      have hb7 := hb6.trans (hs7.mono hb6.size)
      go_wp2_with fail
      refine (C6.out _ _ _ (hR2.kept (bel2 (bel2 (bel2 (bel2 hs3 hs4) hs5) hs6) hs7))).mono ?_
      rintro e w8 ⟨rfl, hs8⟩
      have hb8 := hb7.trans (hs8.mono hb7.size)
      go_wp2_with fail
      go_ret
      exact ⟨rfl, hb8⟩

set_option maxRecDepth 100000 in
theorem lifted (os : Os) (started : os.Started) (H : Type) (enc : TypeId × Value → H) :
    ReturnsInHanded {} Try.checked os 6 .any (Rows.fnThreeSpec.pre6 enc Try.prog Try.f6 Rows.fnThreeRow.domain false) (Rows.fnThreeSpec.post enc Try.prog Try.f6 false true false false) := by
  refine returnsInHanded_of_change (C := Try.checked) own started (by kernel_rfl) Try.func6
    (ChangeSpec.witness6 (enc := enc) (C := Try.checked) false ⟨#[], #[.slice none 0 0], []⟩ 8 (by kernel_rfl) (by kernel_rfl) (by kernel_rfl) (by kernel_rfl)) ?_
  intro W base args ds gs before hval0 hW hcnd _
  have hval : ∀ (j : Nat) t v, Try.f6.params[j]? = some t → args[j]? = some v → Value.okWide Try.prog W .any base t v := hval0
  have hW' := hW
  obtain ⟨p, q, hA0, hV, rfl, hfz, hnd⟩ := hW
  have hA : DataW.TrodAll enc Try.prog W 0 (fun _ => true) true Try.f6.params.toList args.toList ds p := hA0
  rw [Try.params6] at hA hval
  obtain ⟨v0, vs0, d0, ds0, p0, q0, hargs, rfl, rfl, h0, r0⟩ := trodAll_cons hA
  obtain ⟨rfl, rfl, rfl⟩ := trodAll_nil r0
  obtain rfl : args = #[v0] := by cases args; simp_all
  obtain ⟨rfl, rfl⟩ := trodVars_none hV
  obtain ⟨a0, len0, cap0, rfl⟩ := okWide_slice Try.underlying22 (hval 0 22 v0 rfl rfl)
  have k0 := h0
  have lt0 : ∀ x ∈ p0, x.block < W.heap.size := by obtain ⟨m, hm⟩ := k0; exact DataW.trod_lt m _ _ _ hm
  obtain ⟨z0, w0⟩ : ∃ zs, IsRow .u8 W a0 len0 cap0 zs := by
    obtain ⟨fuel, hf⟩ := h0
    rcases open_ints Try.underlying22 Try.underlying5 (by kernel_rfl) hf with ⟨hcs, _⟩ | ⟨x, l, c, zs, hcs, _, hl, hm, hz, _, hcell, hwz⟩
    · simp [Value.cells] at hcs
      obtain ⟨rfl, rfl, rfl⟩ := hcs
      exact ⟨[], .inl ⟨rfl, rfl, rfl, rfl⟩⟩
    · simp [Value.cells] at hcs
      obtain ⟨rfl, rfl, rfl⟩ := hcs
      exact ⟨zs, .inr ⟨_, rfl, hl, hm, by simpa using hz, hcell, hwz⟩⟩
  clear hA0 hval0
  refine (walk a0 len0 cap0 z0 W w0).mono fun e W' ⟨he, bel⟩ => ?_
  subst he
  exact ⟨_, rfl, _, _, _, [], _, [], hW', trodAll_mk1 (shut_bool Try.underlying4 _), (trodAll_cons_mk (Below.trod laidOut (by kernel_rfl) (of_decide_eq_true (by kernel_rfl)) k0 bel lt0) trodAll_mk0), rfl, bel.frame _, fun h => by cases h⟩

theorem closed : joinedFacts Try.checked.prog 6 Try.f6 Rows.fnThreeSpec Rows.fnThreeRow = true := by
  unfold joinedFacts
  rw [may, made, lifts]
  kernel_rfl

theorem over : Rows.fnThreeRow.holds Try.pinned (OpenSpec.ofChange Rows.fnThreeSpec) :=
  OpenClaim.holds_of_wide 6 Try.f6 rfl rfl rfl rfl rfl rfl rfl ⟨rfl, rfl, rfl, rfl, rfl⟩ rfl rfl rfl rfl rfl (by kernel_rfl) Try.func6 closed
    (of_decide_eq_true (by kernel_rfl)) (by unfold Func.isWrapper; first | (rw [if_pos (by decide +kernel)]; kernel_rfl) | (rw [if_neg (by decide +kernel)]; exact ⟨rfl, rfl⟩))
    (fun os started H enc _ => lifted os started H enc)

/-- The given statement. -/
theorem proved : Rows.FnThreeSaid := over
#print axioms proved

end Go.Proofs.Ythbgmmjgenkjpaa.fnThree
