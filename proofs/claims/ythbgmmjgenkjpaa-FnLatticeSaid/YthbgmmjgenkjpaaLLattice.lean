/- Proves the given statement on laws.FnLattice: whatever the input, the law returns true and its input reads as it did. No conditions. -/
import Derived.Test.YthbgmmjgenkjpaaFr
import Derived.Test.YthbgmmjgenkjpaaWrd
import Derived.Test.YthbgmmjgenkjpaaWDrawX
import Derived.Test.YthbgmmjgenkjpaaLatW
import Derived.Test.YthbgmmjgenkjpaaWFlip
import Derived.Test.YthbgmmjgenkjpaaWMark
set_option linter.unusedVariables false
namespace Go.Proofs.Ythbgmmjgenkjpaa.fnLattice
open Go.ChangeShapes Go.WideShapes Go.ChangeAt Go.RowKit
open Go.ChangeMaps (open_string shut_string)
open Res

theorem walk (a0 : Option Addr) (len0 cap0 : Nat) (z0 : List Int) (w : World) (w0 : IsRow .u8 w a0 len0 cap0 z0) :
    Calls Try.prog 10 #[.slice a0 len0 cap0] w fun e w' => e = .returned (.bool true) ∧ Below w.heap.size w w' := by
  obtain ⟨hc, hlen⟩ := w0.code
  clear w0
  generalize z0.take len0 = l at *
  subst hlen
  by_cases hbig : 1048576 < l.length
  · go_enter Try.func10, Try.ntmps10
    go_wp2
    go_ret
    exact ⟨rfl, Below.refl _ _⟩
  · have hl : (l.length : Int) ≤ 1048576 := by omega
    go_enter Try.func10, Try.ntmps10
    go_wp2_with fail
    refine (DrawLatticeIn_any _ _ l _ hc).mono ?_
    rintro e w1 ⟨v1, L, rfl, hO1, hL, hb1⟩
    obtain ⟨a1, c1, rfl, hR1, hl1, hc1⟩ := hO1.shape
    have C1 := Lib.hid (fun a c w hr => implLatticeIn_any a c L w (by omega) hr)
    have C2 := Lib.hid (fun a c w hr => specLatticeIn_any a c L w (by omega) hr)
    clear hO1
    cases hv : latOk L
    · rw [hv] at C1 C2
      go_wp2_with fail
      refine (C1.out _ _ _ hR1).mono ?_
      rintro e w2 ⟨rfl, hs2⟩
      have hb2 := hb1.trans (hs2.mono hb1.size)
      go_wp2_with fail
      refine (C2.out _ _ _ (hR1.kept hs2)).mono ?_
      rintro e w3 ⟨rfl, hs3⟩
      have hb3 := hb2.trans (hs3.mono hb2.size)
      go_wp2_with fail
      go_ret
      exact ⟨rfl, hb3⟩
    · rw [hv] at C1 C2
      have hvec := vec_of_lat hv
      have hd := latP_norm (latP_of hv)
      have C3 := Lib.hid (inner_c L L _ hvec hvec rfl)
      have hfl : latOk (flipV L 16777215) = true := by rw [flip_lat hvec (by omega) codeB_full]; exact hv
      have hF : (flipV L 16777215).length ≤ 24 := Nat.le_of_eq (flipV_length _ _)
      have C4 := Lib.hid (fun a c w hr => implLatticeFlip_ok a c L 16777215 w hr (by unfold flipOk; rw [hvec]; rfl))
      rw [show (16777215 : Int).toNat = 16777215 from rfl] at C4
      generalize flipV L 16777215 = F at *
      have C5 := Lib.hid (latIn_c F true hF hfl)
      generalize dotTo L L 24 = y at *
      have hy1 : y.tmod 16 = 0 := by
        rcases tmod_cases y 16 (by omega) with ⟨-, h⟩ | ⟨-, h⟩ <;> omega
      have hy2 : (y != 16) = true := by rw [bne_iff_ne]; exact hd.2
      have hy3 : y % 16 = 0 := hd.1
      clear hd hfl hvec hv
      go_wp2_with fail
      refine (C1.out _ _ _ hR1).mono ?_
      rintro e w2 ⟨rfl, hs2⟩
      have hb2 := hb1.trans (hs2.mono hb1.size)
      go_wp2_with fail
      refine (C2.out _ _ _ (hR1.kept hs2)).mono ?_
      rintro e w3 ⟨rfl, hs3⟩
      have hb3 := hb2.trans (hs3.mono hb2.size)
      go_wp2_with fail
      refine (C3.out _ _ _ _ _ (hR1.kept (bel2 hs2 hs3)) (hR1.kept (bel2 hs2 hs3))).mono ?_
      rintro e w4 ⟨rfl, hs4⟩
      have hb4 := hb3.trans (hs4.mono hb3.size)
      go_wp2_with fail
      refine (C4.out _ _ _ (hR1.kept (bel2 (bel2 hs2 hs3) hs4))).mono ?_
      rintro e w5 ⟨v5, rfl, hO5, hs5⟩
      obtain ⟨a5, c5, rfl, hR5, hl5, hc5⟩ := hO5.shape
      have hb5 := hb4.trans (hs5.mono hb4.size)
      go_wp2_with fail
      refine (C5.out _ _ _ hR5).mono ?_
      rintro e w6 ⟨rfl, hs6⟩
      have hb6 := hb5.trans (hs6.mono hb5.size)
      go_wp2_with fail
      go_ret
      exact ⟨rfl, hb6⟩

set_option maxRecDepth 100000 in
theorem lifted (os : Os) (started : os.Started) (H : Type) (enc : TypeId × Value → H) :
    ReturnsInHanded {} Try.checked os 10 .any (Rows.fnLatticeSpec.pre6 enc Try.prog Try.f10 Rows.fnLatticeRow.domain false) (Rows.fnLatticeSpec.post enc Try.prog Try.f10 false true false false) := by
  refine returnsInHanded_of_change (C := Try.checked) own started (by kernel_rfl) Try.func10
    (ChangeSpec.witness6 (enc := enc) (C := Try.checked) false ⟨#[], #[.slice none 0 0], []⟩ 8 (by kernel_rfl) (by kernel_rfl) (by kernel_rfl) (by kernel_rfl)) ?_
  intro W base args ds gs before hval0 hW hcnd _
  have hval : ∀ (j : Nat) t v, Try.f10.params[j]? = some t → args[j]? = some v → Value.okWide Try.prog W .any base t v := hval0
  have hW' := hW
  obtain ⟨p, q, hA0, hV, rfl, hfz, hnd⟩ := hW
  have hA : DataW.TrodAll enc Try.prog W 0 (fun _ => true) true Try.f10.params.toList args.toList ds p := hA0
  rw [Try.params10] at hA hval
  obtain ⟨v0, vs0, d0, ds0, p0, q0, hargs, rfl, rfl, h0, r0⟩ := trodAll_cons hA
  obtain ⟨rfl, rfl, rfl⟩ := trodAll_nil r0
  obtain rfl : args = #[v0] := by cases args; simp_all
  obtain ⟨rfl, rfl⟩ := trodVars_none hV
  obtain ⟨a0, len0, cap0, rfl⟩ := okWide_slice Try.underlying22 (hval 0 22 v0 rfl rfl)
  have k0 := h0
  have lt0 : ∀ x ∈ p0, x.block < W.heap.size := by obtain ⟨m, hm⟩ := k0; exact DataW.trod_lt m _ _ _ hm
  obtain ⟨z0, w0⟩ : ∃ zs, IsRow .u8 W a0 len0 cap0 zs := by
    obtain ⟨fuel, hf⟩ := h0
    rcases open_ints Try.underlying22 Try.underlying5 (by kernel_rfl) hf with ⟨hcs, _⟩ | ⟨x, l, c, zs, hcs, _, hl, hm, hz, _, hcell, hwz⟩
    · simp [Value.cells] at hcs
      obtain ⟨rfl, rfl, rfl⟩ := hcs
      exact ⟨[], .inl ⟨rfl, rfl, rfl, rfl⟩⟩
    · simp [Value.cells] at hcs
      obtain ⟨rfl, rfl, rfl⟩ := hcs
      exact ⟨zs, .inr ⟨_, rfl, hl, hm, by simpa using hz, hcell, hwz⟩⟩
  clear hA0 hval0
  refine (walk a0 len0 cap0 z0 W w0).mono fun e W' ⟨he, bel⟩ => ?_
  subst he
  exact ⟨_, rfl, _, _, _, [], _, [], hW', trodAll_mk1 (shut_bool Try.underlying4 _), (trodAll_cons_mk (Below.trod laidOut (by kernel_rfl) (of_decide_eq_true (by kernel_rfl)) k0 bel lt0) trodAll_mk0), rfl, bel.frame _, fun h => by cases h⟩

theorem closed : joinedFacts Try.checked.prog 10 Try.f10 Rows.fnLatticeSpec Rows.fnLatticeRow = true := by
  unfold joinedFacts
  rw [may, made, lifts]
  kernel_rfl

theorem over : Rows.fnLatticeRow.holds Try.pinned (OpenSpec.ofChange Rows.fnLatticeSpec) :=
  OpenClaim.holds_of_wide 10 Try.f10 rfl rfl rfl rfl rfl rfl rfl ⟨rfl, rfl, rfl, rfl, rfl⟩ rfl rfl rfl rfl rfl (by kernel_rfl) Try.func10 closed
    (of_decide_eq_true (by kernel_rfl)) (by unfold Func.isWrapper; first | (rw [if_pos (by decide +kernel)]; kernel_rfl) | (rw [if_neg (by decide +kernel)]; exact ⟨rfl, rfl⟩))
    (fun os started H enc _ => lifted os started H enc)

/-- The given statement. -/
theorem proved : Rows.FnLatticeSaid := over
#print axioms proved

end Go.Proofs.Ythbgmmjgenkjpaa.fnLattice
