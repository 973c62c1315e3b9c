/- Proves the given statement on laws.FnResidueTurned: whatever the input, the law returns true and its input reads as it did. No conditions. -/
import Derived.Test.YtdniiohbalohlaaFr
import Derived.Test.YtdniiohbalohlaaWRes
import Derived.Test.YtdniiohbalohlaaResT
import Derived.Test.YtdniiohbalohlaaWDrawRes
set_option linter.unusedVariables false
namespace Go.Proofs.Ytdniiohbalohlaa.fnResidueTurned
open Go.ChangeShapes Go.WideShapes Go.ChangeAt Go.RowKit
open Go.ChangeMaps (open_string shut_string)
open Res

theorem DrawResidueTurned_any (a : Option Addr) (cap : Nat) (l : List Int) (w : World) (hc : Code w a l cap) :
    Calls Try.prog 22 #[.slice a l.length cap] w (Drew (fun k => -1 ≤ k ∧ k ≤ 23) w) := by
  go_enter Try.func22, Try.ntmps22
  go_wp2_with fail
  refine (DrawResidueSquare_any _ _ l _ hc).mono ?_
  rintro e w1 ⟨k, rfl, hk, hb1⟩
  go_wp2_with fail
  go_ret
  exact ⟨_, rfl, hk, hb1⟩

theorem walk (a0 : Option Addr) (len0 cap0 : Nat) (z0 : List Int) (w : World) (w0 : IsRow .u8 w a0 len0 cap0 z0) :
    Calls Try.prog 7 #[.slice a0 len0 cap0] w fun e w' => e = .returned (.bool true) ∧ Below w.heap.size w w' := by
  obtain ⟨hc, hlen⟩ := w0.code
  clear w0
  generalize z0.take len0 = l at *
  subst hlen
  by_cases hbig : 1048576 < l.length
  · go_enter Try.func7, Try.ntmps7
    go_wp2
    go_ret
    exact ⟨rfl, Below.refl _ _⟩
  · have hl : (l.length : Int) ≤ 1048576 := by omega
    go_enter Try.func7, Try.ntmps7
    go_wp2_with fail
    refine (DrawResidueTurned_any _ _ l _ hc).mono ?_
    rintro e w1 ⟨n, rfl, hn, hb1⟩
    cases hv : inB n 1 22
    · go_wp2_with fail
      refine (implResidueTurned_no _ _ hv).mono ?_
      rintro e w' ⟨rfl, rfl⟩
      go_wp2_with fail
      refine (specResidueTurned_no _ _ hv).mono ?_
      rintro e w' ⟨rfl, rfl⟩
      go_wp2_with fail
      go_ret
      exact ⟨rfl, hb1⟩
    · obtain ⟨g0, g1⟩ := inB_iff.1 hv
      clear hv hn
      obtain ⟨n, rfl⟩ := Int.eq_ofNat_of_zero_le (show 0 ≤ n by omega)
      have hs := (invN_spec (n := n) (by omega) (by omega)).2
      obtain ⟨t1, t2, t3⟩ := turned_law (n := n) (by omega) (by omega)
      have hp := mul_bd 22 22 (a := ((invN n : Nat) : Int)) (b := (n : Int)) (by omega) (by omega) (by omega) (by omega)
      have hq : ((invN n : Nat) : Int) * (n : Int) % 23 = 1 := by exact_mod_cast t3
      have hb : inB ((invN n : Nat) : Int) 0 22 = true := inB_true (by omega) (by omega)
      have hb2 : inB (n : Int) 0 22 = true := inB_true (by omega) (by omega)
      have T1 := Lib.hid t1
      clear t1 t3
      go_wp2_with fail
      refine (implResidueTurned_ok _ _ g0 g1).mono ?_
      rintro e w' ⟨rfl, rfl⟩
      go_wp2_with fail
      refine (specResidueTurned_ok _ _ g0 g1).mono ?_
      rintro e w' ⟨rfl, rfl⟩
      simp only [Int.toNat_natCast]
      go_wp2_with fail
      refine (implResidueTurned_ok _ _ (by omega) (by omega)).mono ?_
      rintro e w' ⟨rfl, rfl⟩
      simp only [Int.toNat_natCast]
      rw [T1.out]
      go_wp2_with (go_at_call 16; refine (implResidueSquare_any _ _).mono ?_; rintro e w' ⟨rfl, rfl⟩)
      go_ret
      exact ⟨rfl, hb1⟩

set_option maxRecDepth 100000 in
theorem lifted (os : Os) (started : os.Started) (H : Type) (enc : TypeId × Value → H) :
    ReturnsInHanded {} Try.checked os 7 .any (Rows.fnResidueTurnedSpec.pre6 enc Try.prog Try.f7 Rows.fnResidueTurnedRow.domain false) (Rows.fnResidueTurnedSpec.post enc Try.prog Try.f7 false true false false) := by
  refine returnsInHanded_of_change (C := Try.checked) own started (by kernel_rfl) Try.func7
    (ChangeSpec.witness6 (enc := enc) (C := Try.checked) false ⟨#[], #[.slice none 0 0], []⟩ 8 (by kernel_rfl) (by kernel_rfl) (by kernel_rfl) (by kernel_rfl)) ?_
  intro W base args ds gs before hval0 hW hcnd _
  have hval : ∀ (j : Nat) t v, Try.f7.params[j]? = some t → args[j]? = some v → Value.okWide Try.prog W .any base t v := hval0
  have hW' := hW
  obtain ⟨p, q, hA0, hV, rfl, hfz, hnd⟩ := hW
  have hA : DataW.TrodAll enc Try.prog W 0 (fun _ => true) true Try.f7.params.toList args.toList ds p := hA0
  rw [Try.params7] at hA hval
  obtain ⟨v0, vs0, d0, ds0, p0, q0, hargs, rfl, rfl, h0, r0⟩ := trodAll_cons hA
  obtain ⟨rfl, rfl, rfl⟩ := trodAll_nil r0
  obtain rfl : args = #[v0] := by cases args; simp_all
  obtain ⟨rfl, rfl⟩ := trodVars_none hV
  obtain ⟨a0, len0, cap0, rfl⟩ := okWide_slice Try.underlying25 (hval 0 25 v0 rfl rfl)
  have k0 := h0
  have lt0 : ∀ x ∈ p0, x.block < W.heap.size := by obtain ⟨m, hm⟩ := k0; exact DataW.trod_lt m _ _ _ hm
  obtain ⟨z0, w0⟩ : ∃ zs, IsRow .u8 W a0 len0 cap0 zs := by
    obtain ⟨fuel, hf⟩ := h0
    rcases open_ints Try.underlying25 Try.underlying5 (by kernel_rfl) hf with ⟨hcs, _⟩ | ⟨x, l, c, zs, hcs, _, hl, hm, hz, _, hcell, hwz⟩
    · simp [Value.cells] at hcs
      obtain ⟨rfl, rfl, rfl⟩ := hcs
      exact ⟨[], .inl ⟨rfl, rfl, rfl, rfl⟩⟩
    · simp [Value.cells] at hcs
      obtain ⟨rfl, rfl, rfl⟩ := hcs
      exact ⟨zs, .inr ⟨_, rfl, hl, hm, by simpa using hz, hcell, hwz⟩⟩
  clear hA0 hval0
  refine (walk a0 len0 cap0 z0 W w0).mono fun e W' ⟨he, bel⟩ => ?_
  subst he
  exact ⟨_, rfl, _, _, _, [], _, [], hW', trodAll_mk1 (shut_bool Try.underlying4 _), (trodAll_cons_mk (Below.trod laidOut (by kernel_rfl) (of_decide_eq_true (by kernel_rfl)) k0 bel lt0) trodAll_mk0), rfl, bel.frame _, fun h => by cases h⟩

theorem over : Rows.fnResidueTurnedRow.holds Try.pinned (OpenSpec.ofChange Rows.fnResidueTurnedSpec) :=
  OpenClaim.holds_of_wide 7 Try.f7 rfl rfl rfl rfl rfl rfl rfl ⟨rfl, rfl, rfl, rfl, rfl⟩ rfl rfl rfl rfl rfl (by kernel_rfl) Try.func7 (by kernel_rfl)
    (of_decide_eq_true (by kernel_rfl)) (by unfold Func.isWrapper; first | (rw [if_pos (by decide +kernel)]; kernel_rfl) | (rw [if_neg (by decide +kernel)]; exact ⟨rfl, rfl⟩))
    (fun os started H enc _ => lifted os started H enc)

/-- The given statement. -/
theorem proved : Rows.FnResidueTurnedSaid := over
#print axioms proved

end Go.Proofs.Ytdniiohbalohlaa.fnResidueTurned
