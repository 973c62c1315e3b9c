/- Proves the given statement on laws.FnMove: whatever the input, the law returns true and its input reads as it did. No conditions. -/
import Derived.Test.YtdniiohbalohlaaFr
import Derived.Test.YtdniiohbalohlaaWDrawLn
import Derived.Test.YtdniiohbalohlaaMobN
set_option linter.unusedVariables false
namespace Go.Proofs.Ytdniiohbalohlaa.fnMove
open Go.ChangeShapes Go.WideShapes Go.ChangeAt Go.RowKit
open Go.ChangeMaps (open_string shut_string)
open Res

theorem walk (a0 : Option Addr) (len0 cap0 : Nat) (z0 : List Int) (w : World) (w0 : IsRow .u8 w a0 len0 cap0 z0) :
    Calls Try.prog 12 #[.slice a0 len0 cap0] w fun e w' => e = .returned (.bool true) ∧ Below w.heap.size w w' := by
  obtain ⟨hc, hlen⟩ := w0.code
  clear w0
  generalize z0.take len0 = l at *
  subst hlen
  by_cases hbig : 1048576 < l.length
  · go_enter Try.func12, Try.ntmps12
    go_wp2
    go_ret
    exact ⟨rfl, Below.refl _ _⟩
  · have hl : (l.length : Int) ≤ 1048576 := by omega
    go_enter Try.func12, Try.ntmps12
    go_wp2_with fail
    refine (DrawLineMove_any _ _ l _ hc).mono ?_
    rintro e w1 ⟨a, b, c, d, x, rfl, hb1⟩
    cases hv : (mOk a b c d && inB x 0 23)
    · go_wp2_with fail
      refine (implLineMove_no _ _ _ _ _ _ hv).mono ?_
      rintro e w' ⟨rfl, rfl⟩
      go_wp2_with fail
      refine (specLineMove_no _ _ _ _ _ _ hv).mono ?_
      rintro e w' ⟨rfl, rfl⟩
      go_wp2_with fail
      go_ret
      exact ⟨rfl, hb1⟩
    · rw [Bool.and_eq_true] at hv
      obtain ⟨hv, hx⟩ := hv
      obtain ⟨x0, x1⟩ := inB_iff.1 hx
      obtain ⟨⟨a0', a1⟩, ⟨b0, b1⟩, ⟨c0, c1⟩, ⟨d0, d1⟩, hsq⟩ := mOk_bd hv
      obtain ⟨a, rfl⟩ := Int.eq_ofNat_of_zero_le a0'
      obtain ⟨b, rfl⟩ := Int.eq_ofNat_of_zero_le b0
      obtain ⟨c, rfl⟩ := Int.eq_ofNat_of_zero_le c0
      obtain ⟨d, rfl⟩ := Int.eq_ofNat_of_zero_le d0
      obtain ⟨x, rfl⟩ := Int.eq_ofNat_of_zero_le x0
      have hv2 := mOk_back (a := a) (b := b) (c := c) (d := d) (by omega) (by omega) hv
      have hback := Lib.hid (lm_back (a := a) (b := b) (c := c) (d := d) (x := x) (by omega) (by omega) (by omega) (by omega) (by omega) hsq)
      have hle := lm_le a b c d x
      rw [show (23 - (b : Int)) % 23 = (-(b : Int)) % 23 by omega, show (23 - (c : Int)) % 23 = (-(c : Int)) % 23 by omega] at hv2
      have eb : ((-(b : Int)) % 23).toNat = (23 - b) % 23 := by omega
      have ec : ((-(c : Int)) % 23).toNat = (23 - c) % 23 := by omega
      have EB := Lib.hid eb
      have EC := Lib.hid ec
      clear hsq hx eb ec
      have C1 := implLineMove_ok (a : Int) b c d x w1 hv x0 x1
      have C2 := specLineMove_ok (a : Int) b c d x w1 hv x0 x1
      have C3 := implLineMove_ok (d : Int) ((-(b : Int)) % 23) ((-(c : Int)) % 23) a ((lm a b c d x : Nat) : Int) w1 hv2 (by omega) (by omega)
      rw [EB.out, EC.out] at C3
      simp only [Int.toNat_natCast] at C1 C2 C3
      rw [hback.out] at C3
      have D1 := Lib.hid C1
      have D2 := Lib.hid C2
      have D3 := Lib.hid C3
      clear C1 C2 C3 EB EC hback hv2 hv
      go_wp2_with fail
      refine (D1.out).mono ?_
      rintro e w' ⟨rfl, rfl⟩
      go_wp2_with fail
      refine (D2.out).mono ?_
      rintro e w' ⟨rfl, rfl⟩
      go_wp2_with fail
      refine (D3.out).mono ?_
      rintro e w' ⟨rfl, rfl⟩
      go_wp2_with fail
      go_ret
      exact ⟨rfl, hb1⟩

set_option maxRecDepth 100000 in
theorem lifted (os : Os) (started : os.Started) (H : Type) (enc : TypeId × Value → H) :
    ReturnsInHanded {} Try.checked os 12 .any (Rows.fnMoveSpec.pre6 enc Try.prog Try.f12 Rows.fnMoveRow.domain false) (Rows.fnMoveSpec.post enc Try.prog Try.f12 false true false false) := by
  refine returnsInHanded_of_change (C := Try.checked) own started (by kernel_rfl) Try.func12
    (ChangeSpec.witness6 (enc := enc) (C := Try.checked) false ⟨#[], #[.slice none 0 0], []⟩ 8 (by kernel_rfl) (by kernel_rfl) (by kernel_rfl) (by kernel_rfl)) ?_
  intro W base args ds gs before hval0 hW hcnd _
  have hval : ∀ (j : Nat) t v, Try.f12.params[j]? = some t → args[j]? = some v → Value.okWide Try.prog W .any base t v := hval0
  have hW' := hW
  obtain ⟨p, q, hA0, hV, rfl, hfz, hnd⟩ := hW
  have hA : DataW.TrodAll enc Try.prog W 0 (fun _ => true) true Try.f12.params.toList args.toList ds p := hA0
  rw [Try.params12] at hA hval
  obtain ⟨v0, vs0, d0, ds0, p0, q0, hargs, rfl, rfl, h0, r0⟩ := trodAll_cons hA
  obtain ⟨rfl, rfl, rfl⟩ := trodAll_nil r0
  obtain rfl : args = #[v0] := by cases args; simp_all
  obtain ⟨rfl, rfl⟩ := trodVars_none hV
  obtain ⟨a0, len0, cap0, rfl⟩ := okWide_slice Try.underlying25 (hval 0 25 v0 rfl rfl)
  have k0 := h0
  have lt0 : ∀ x ∈ p0, x.block < W.heap.size := by obtain ⟨m, hm⟩ := k0; exact DataW.trod_lt m _ _ _ hm
  obtain ⟨z0, w0⟩ : ∃ zs, IsRow .u8 W a0 len0 cap0 zs := by
    obtain ⟨fuel, hf⟩ := h0
    rcases open_ints Try.underlying25 Try.underlying5 (by kernel_rfl) hf with ⟨hcs, _⟩ | ⟨x, l, c, zs, hcs, _, hl, hm, hz, _, hcell, hwz⟩
    · simp [Value.cells] at hcs
      obtain ⟨rfl, rfl, rfl⟩ := hcs
      exact ⟨[], .inl ⟨rfl, rfl, rfl, rfl⟩⟩
    · simp [Value.cells] at hcs
      obtain ⟨rfl, rfl, rfl⟩ := hcs
      exact ⟨zs, .inr ⟨_, rfl, hl, hm, by simpa using hz, hcell, hwz⟩⟩
  clear hA0 hval0
  refine (walk a0 len0 cap0 z0 W w0).mono fun e W' ⟨he, bel⟩ => ?_
  subst he
  exact ⟨_, rfl, _, _, _, [], _, [], hW', trodAll_mk1 (shut_bool Try.underlying4 _), (trodAll_cons_mk (Below.trod laidOut (by kernel_rfl) (of_decide_eq_true (by kernel_rfl)) k0 bel lt0) trodAll_mk0), rfl, bel.frame _, fun h => by cases h⟩

theorem over : Rows.fnMoveRow.holds Try.pinned (OpenSpec.ofChange Rows.fnMoveSpec) :=
  OpenClaim.holds_of_wide 12 Try.f12 rfl rfl rfl rfl rfl rfl rfl ⟨rfl, rfl, rfl, rfl, rfl⟩ rfl rfl rfl rfl rfl (by kernel_rfl) Try.func12 (by kernel_rfl)
    (of_decide_eq_true (by kernel_rfl)) (by unfold Func.isWrapper; first | (rw [if_pos (by decide +kernel)]; kernel_rfl) | (rw [if_neg (by decide +kernel)]; exact ⟨rfl, rfl⟩))
    (fun os started H enc _ => lifted os started H enc)

/-- The given statement. -/
theorem proved : Rows.FnMoveSaid := over
#print axioms proved

end Go.Proofs.Ytdniiohbalohlaa.fnMove
