/- Proves the given statement on laws.FnVector: whatever the input, the law returns true and its input reads as it did. No conditions. -/
import Derived.Test.YthbgmmjgenkjpaaFr
import Derived.Test.YthbgmmjgenkjpaaWrd
import Derived.Test.YthbgmmjgenkjpaaWDrawX
import Derived.Test.YthbgmmjgenkjpaaLatW
import Derived.Test.YthbgmmjgenkjpaaWVec
import Derived.Test.YthbgmmjgenkjpaaWMark
set_option linter.unusedVariables false
namespace Go.Proofs.Ythbgmmjgenkjpaa.fnVector
open Go.ChangeShapes Go.WideShapes Go.ChangeAt Go.RowKit
open Go.ChangeMaps (open_string shut_string)
open Res

theorem walk (a0 : Option Addr) (len0 cap0 : Nat) (z0 : List Int) (w : World) (w0 : IsRow .u8 w a0 len0 cap0 z0) :
    Calls Try.prog 5 #[.slice a0 len0 cap0] w fun e w' => e = .returned (.bool true) ∧ Below w.heap.size w w' := by
  obtain ⟨hc, hlen⟩ := w0.code
  clear w0
  generalize z0.take len0 = l at *
  subst hlen
  by_cases hbig : 1048576 < l.length
  · go_enter Try.func5, Try.ntmps5
    go_wp2
    go_ret
    exact ⟨rfl, Below.refl _ _⟩
  · have hl : (l.length : Int) ≤ 1048576 := by omega
    go_enter Try.func5, Try.ntmps5
    go_wp2_with fail
    refine (DrawVectorValid_any _ _ l _ hc).mono ?_
    rintro e w1 ⟨v1, L, rfl, hO1, hL, hb1⟩
    obtain ⟨a1, c1, rfl, hR1, hl1, hc1⟩ := hO1.shape
    have hLl : (L.length : Int) ≤ 24 := by omega
    cases hv : vecOk L
    · have C1 := Lib.hid (fun a c w hr => implVectorValid_any a c L w (by omega) hr)
      have C2 := Lib.hid (fun a c w hr => specVectorValid_any a c L w (by omega) hr)
      rw [hv] at C1 C2
      clear hO1
      go_wp2_with fail
      refine (C1.out _ _ _ hR1).mono ?_
      rintro e w' ⟨rfl, rfl⟩
      go_wp2_with fail
      refine (C2.out _ _ _ hR1).mono ?_
      rintro e w' ⟨rfl, rfl⟩
      go_wp2_with fail
      go_ret
      exact ⟨rfl, hb1⟩
    · have C1 := Lib.hid (fun a c w hr => implVectorValid_any a c L w (by omega) hr)
      have C2 := Lib.hid (fun a c w hr => specVectorValid_any a c L w (by omega) hr)
      rw [hv] at C1 C2
      have hL24 := vecOk_length hv
      have C3 := Lib.hid (inner_c L L _ hv hv rfl)
      have HZ : Hid ((dotTo L L 24 == 0) = zTo L L.length) := Lib.hid (by rw [hL24]; exact dot_zero L 24)
      have hd0 : decide (0 ≤ dotTo L L 24) = true := decide_eq_true (dot_nonneg L 24)
      have hd1 : decide (dotTo L L 24 ≥ 0) = true := decide_eq_true (dot_nonneg L 24)
      have H24 : Hid (((L.length : Int) == 24) = true) := Lib.hid (by rw [hL24]; rfl)
      have HT : Hid (∀ k, zTo L (k + 1) = (zTo L k && (L.getD k 0 == 0))) := Lib.hid (fun _ => rfl)
      have H0 : Hid (zTo L 0 = true) := Lib.hid rfl
      generalize dotTo L L 24 = y at *
      generalize zTo L = Z at *
      clear hO1 hv hL24
      go_wp2_with fail
      refine (C1.out _ _ _ hR1).mono ?_
      rintro e w' ⟨rfl, rfl⟩
      go_wp2_with fail
      refine (C2.out _ _ _ hR1).mono ?_
      rintro e w' ⟨rfl, rfl⟩
      go_wp2_with fail
      refine (C3.out _ _ _ _ _ hR1 hR1).mono ?_
      rintro e w2 ⟨rfl, hs2⟩
      have hb2 := hb1.trans (hs2.mono hb1.size)
      have hRL := (hR1.kept hs2)
      go_wp2_with fail
      go_loop [8, 9] (fun s x => ∃ k : Nat, k ≤ L.length ∧ x = .int .i64 (k : Int) ∧ s = .bool (Z k))
        (fun _ x => (L.length - (intOf x).toNat))
      case atStart => exact ⟨0, by omega, rfl, by rw [H0.out]⟩
      case round =>
        obtain ⟨k, hk, rfl, rfl⟩ := hrel
        by_cases hlt : k < L.length
        · have hki : (k : Int) < (L.length : Int) := by omega
          obtain ⟨b, off, ha, hbl, hcl⟩ := hRL k hlt
          have D := Lib.hid (HT.out k)
          rw [getD_get hlt] at hcl D
          generalize L[k] = x at *
          subst ha
          cases hz : Z k
          · rw [hz] at D
            go_wp2_with fail
            go_round
            case rel => exact ⟨k + 1, by omega, by go_num, by rw [D.out]; rfl⟩
            case measure => simp [intOf]; omega
          · rw [hz] at D
            go_wp2_with fail
            go_round
            case rel => exact ⟨k + 1, by omega, by go_num, by rw [D.out]; rfl⟩
            case measure => simp [intOf]; omega
        · obtain rfl : k = L.length := by omega
          have hzz := HZ.out
          have h24 := H24.out
          clear hlt hk
          cases hz : Z L.length
          · rw [hz] at hzz
            go_wp2_with fail
            go_ret
            exact ⟨rfl, hb2⟩
          · rw [hz] at hzz
            go_wp2_with fail
            go_ret
            exact ⟨rfl, hb2⟩

set_option maxRecDepth 100000 in
theorem lifted (os : Os) (started : os.Started) (H : Type) (enc : TypeId × Value → H) :
    ReturnsInHanded {} Try.checked os 5 .any (Rows.fnVectorSpec.pre6 enc Try.prog Try.f5 Rows.fnVectorRow.domain false) (Rows.fnVectorSpec.post enc Try.prog Try.f5 false true false false) := by
  refine returnsInHanded_of_change (C := Try.checked) own started (by kernel_rfl) Try.func5
    (ChangeSpec.witness6 (enc := enc) (C := Try.checked) false ⟨#[], #[.slice none 0 0], []⟩ 8 (by kernel_rfl) (by kernel_rfl) (by kernel_rfl) (by kernel_rfl)) ?_
  intro W base args ds gs before hval0 hW hcnd _
  have hval : ∀ (j : Nat) t v, Try.f5.params[j]? = some t → args[j]? = some v → Value.okWide Try.prog W .any base t v := hval0
  have hW' := hW
  obtain ⟨p, q, hA0, hV, rfl, hfz, hnd⟩ := hW
  have hA : DataW.TrodAll enc Try.prog W 0 (fun _ => true) true Try.f5.params.toList args.toList ds p := hA0
  rw [Try.params5] at hA hval
  obtain ⟨v0, vs0, d0, ds0, p0, q0, hargs, rfl, rfl, h0, r0⟩ := trodAll_cons hA
  obtain ⟨rfl, rfl, rfl⟩ := trodAll_nil r0
  obtain rfl : args = #[v0] := by cases args; simp_all
  obtain ⟨rfl, rfl⟩ := trodVars_none hV
  obtain ⟨a0, len0, cap0, rfl⟩ := okWide_slice Try.underlying22 (hval 0 22 v0 rfl rfl)
  have k0 := h0
  have lt0 : ∀ x ∈ p0, x.block < W.heap.size := by obtain ⟨m, hm⟩ := k0; exact DataW.trod_lt m _ _ _ hm
  obtain ⟨z0, w0⟩ : ∃ zs, IsRow .u8 W a0 len0 cap0 zs := by
    obtain ⟨fuel, hf⟩ := h0
    rcases open_ints Try.underlying22 Try.underlying5 (by kernel_rfl) hf with ⟨hcs, _⟩ | ⟨x, l, c, zs, hcs, _, hl, hm, hz, _, hcell, hwz⟩
    · simp [Value.cells] at hcs
      obtain ⟨rfl, rfl, rfl⟩ := hcs
      exact ⟨[], .inl ⟨rfl, rfl, rfl, rfl⟩⟩
    · simp [Value.cells] at hcs
      obtain ⟨rfl, rfl, rfl⟩ := hcs
      exact ⟨zs, .inr ⟨_, rfl, hl, hm, by simpa using hz, hcell, hwz⟩⟩
  clear hA0 hval0
  refine (walk a0 len0 cap0 z0 W w0).mono fun e W' ⟨he, bel⟩ => ?_
  subst he
  exact ⟨_, rfl, _, _, _, [], _, [], hW', trodAll_mk1 (shut_bool Try.underlying4 _), (trodAll_cons_mk (Below.trod laidOut (by kernel_rfl) (of_decide_eq_true (by kernel_rfl)) k0 bel lt0) trodAll_mk0), rfl, bel.frame _, fun h => by cases h⟩

theorem closed : joinedFacts Try.checked.prog 5 Try.f5 Rows.fnVectorSpec Rows.fnVectorRow = true := by
  unfold joinedFacts
  rw [may, made, lifts]
  kernel_rfl

theorem over : Rows.fnVectorRow.holds Try.pinned (OpenSpec.ofChange Rows.fnVectorSpec) :=
  OpenClaim.holds_of_wide 5 Try.f5 rfl rfl rfl rfl rfl rfl rfl ⟨rfl, rfl, rfl, rfl, rfl⟩ rfl rfl rfl rfl rfl (by kernel_rfl) Try.func5 closed
    (of_decide_eq_true (by kernel_rfl)) (by unfold Func.isWrapper; first | (rw [if_pos (by decide +kernel)]; kernel_rfl) | (rw [if_neg (by decide +kernel)]; exact ⟨rfl, rfl⟩))
    (fun os started H enc _ => lifted os started H enc)

/-- The given statement. -/
theorem proved : Rows.FnVectorSaid := over
#print axioms proved

end Go.Proofs.Ythbgmmjgenkjpaa.fnVector
