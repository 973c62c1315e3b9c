/- Proves the given statement on laws.FnExactPermOrder: whatever the input, the law returns true and its input reads as it did. No conditions. -/
import Derived.Test.YtldjlabllhnpjaaFr
import Derived.Test.YtldjlabllhnpjaaWrd
import Derived.Test.YtldjlabllhnpjaaWOrd
import Derived.Test.YtldjlabllhnpjaaWEq
set_option linter.unusedVariables false
namespace Go.Proofs.Ytldjlabllhnpjaa.fnExactPermOrder
open Go.ChangeShapes Go.WideShapes Go.ChangeAt Go.RowKit
open Go.ChangeMaps (open_string shut_string)
open Res

theorem walk (a0 : Option Addr) (len0 cap0 : Nat) (z0 : List Int) (w : World) (w0 : IsRow .i64 w a0 len0 cap0 z0) :
    Calls Try.prog 11 #[.slice a0 len0 cap0] w fun e w' => e = .returned (.bool true) ∧ Below w.heap.size w w' := by
  obtain ⟨hr, hlen, hlc, hcap, -⟩ := w0.reads
  clear w0
  generalize z0.take len0 = l at *
  subst hlen
  by_cases hbig : 1048576 < l.length
  · go_enter Try.func11, Try.ntmps11
    go_wp2
    go_ret
    exact ⟨rfl, Below.refl _ _⟩
  · have hl : (l.length : Int) ≤ 1048576 := by omega
    obtain ⟨n, b, CI, CS⟩ : ∃ (n : Int) (b : Bool), Hid (∀ a c w, Reads .i64 w a l → Calls Try.prog 51 #[.slice a l.length c] w fun e w' => e = .returned (.tuple #[.int .i64 n, .bool b]) ∧ Below w.heap.size w w') ∧
        Hid (∀ a c w, Reads .i64 w a l → Calls Try.prog 50 #[.slice a l.length c] w fun e w' => e = .returned (.tuple #[.int .i64 n, .bool b]) ∧ Below w.heap.size w w') := by
      cases hv : permOk l
      · exact ⟨_, _, Lib.hid (fun a c w hr => implPermOrder_no a c l w (by omega) hr hv), Lib.hid (fun a c w hr => specPermOrder_no a c l w (by omega) hr hv)⟩
      · exact ⟨_, _, Lib.hid (fun a c w hr => implPermOrder_ok a c l w hr hv), Lib.hid (fun a c w hr => specPermOrder_ok a c l w hr hv)⟩
    have en : (n != n) = false := by simp
    have eb : (b != b) = false := by simp
    go_enter Try.func11, Try.ntmps11
    go_wp2_with fail
    refine (toIntS_any _ _ l _ (by omega) hr).mono ?_
    rintro e w1 ⟨v1, rfl, hO1, hb1⟩
    obtain ⟨a1, c1, rfl, hR1, hlc1, hcap1⟩ := hO1.shape
    go_wp2_with fail
    refine (CS.out _ _ _ hR1).mono ?_
    rintro e wa ⟨rfl, hba⟩
    have hb1a := hb1.trans (hba.mono hb1.size)
    go_wp2_with fail
    refine (toIntS_any _ _ l _ (by omega) (hr.kept hb1a)).mono ?_
    rintro e w2 ⟨v2, rfl, hO2, hb2⟩
    obtain ⟨a2, c2, rfl, hR2, hlc2, hcap2⟩ := hO2.shape
    have hb12 := hb1a.trans (hb2.mono hb1a.size)
    go_wp2_with fail
    refine (CI.out _ _ _ hR2).mono ?_
    rintro e wb ⟨rfl, hbb⟩
    have hb1b := hb12.trans (hbb.mono hb12.size)
    go_wp2_with fail
    refine (toIntS_any _ _ l _ (by omega) (hr.kept hb1b)).mono ?_
    rintro e w3 ⟨v3, rfl, hO3, hb3⟩
    obtain ⟨a3, c3, rfl, hR3, hlc3, hcap3⟩ := hO3.shape
    have hb13 := hb1b.trans (hb3.mono hb1b.size)
    go_wp2_with fail
    refine (eqIntS_any _ _ _ _ l l _ (by omega) (by omega) ((hR2.kept hbb).kept hb3) hR3).mono ?_
    rintro e w4 ⟨rfl, hb4⟩
    have hb14 := hb13.trans (hb4.mono hb13.size)
    go_wp2_with fail
    go_ret
    exact ⟨rfl, hb14⟩

set_option maxRecDepth 100000 in
theorem lifted (os : Os) (started : os.Started) (H : Type) (enc : TypeId × Value → H) :
    ReturnsInHanded {} Try.checked os 11 .any (Rows.fnExactPermOrderSpec.pre6 enc Try.prog Try.f11 Rows.fnExactPermOrderRow.domain false) (Rows.fnExactPermOrderSpec.post enc Try.prog Try.f11 false true false false) := by
  refine returnsInHanded_of_change (C := Try.checked) own started (by kernel_rfl) Try.func11
    (ChangeSpec.witness6 (enc := enc) (C := Try.checked) false ⟨#[], #[.slice none 0 0], []⟩ 8 (by kernel_rfl) (by kernel_rfl) (by kernel_rfl) (by kernel_rfl)) ?_
  intro W base args ds gs before hval0 hW hcnd _
  have hval : ∀ (j : Nat) t v, Try.f11.params[j]? = some t → args[j]? = some v → Value.okWide Try.prog W .any base t v := hval0
  have hW' := hW
  obtain ⟨p, q, hA0, hV, rfl, hfz, hnd⟩ := hW
  have hA : DataW.TrodAll enc Try.prog W 0 (fun _ => true) true Try.f11.params.toList args.toList ds p := hA0
  rw [Try.params11] at hA hval
  obtain ⟨v0, vs0, d0, ds0, p0, q0, hargs, rfl, rfl, h0, r0⟩ := trodAll_cons hA
  obtain ⟨rfl, rfl, rfl⟩ := trodAll_nil r0
  obtain rfl : args = #[v0] := by cases args; simp_all
  obtain ⟨rfl, rfl⟩ := trodVars_none hV
  obtain ⟨a0, len0, cap0, rfl⟩ := okWide_slice Try.underlying22 (hval 0 22 v0 rfl rfl)
  have k0 := h0
  have lt0 : ∀ x ∈ p0, x.block < W.heap.size := by obtain ⟨m, hm⟩ := k0; exact DataW.trod_lt m _ _ _ hm
  obtain ⟨z0, w0⟩ : ∃ zs, IsRow .i64 W a0 len0 cap0 zs := by
    obtain ⟨fuel, hf⟩ := h0
    rcases open_ints Try.underlying22 Try.underlying3 (by kernel_rfl) hf with ⟨hcs, _⟩ | ⟨x, l, c, zs, hcs, _, hl, hm, hz, _, hcell, hwz⟩
    · simp [Value.cells] at hcs
      obtain ⟨rfl, rfl, rfl⟩ := hcs
      exact ⟨[], .inl ⟨rfl, rfl, rfl, rfl⟩⟩
    · simp [Value.cells] at hcs
      obtain ⟨rfl, rfl, rfl⟩ := hcs
      exact ⟨zs, .inr ⟨_, rfl, hl, hm, by simpa using hz, hcell, hwz⟩⟩
  clear hA0 hval0
  refine (walk a0 len0 cap0 z0 W w0).mono fun e W' ⟨he, bel⟩ => ?_
  subst he
  exact ⟨_, rfl, _, _, _, [], _, [], hW', trodAll_mk1 (shut_bool Try.underlying4 _), (trodAll_cons_mk (Below.trod laidOut (by kernel_rfl) (of_decide_eq_true (by kernel_rfl)) k0 bel lt0) trodAll_mk0), rfl, bel.frame _, fun h => by cases h⟩

theorem closed : joinedFacts Try.checked.prog 11 Try.f11 Rows.fnExactPermOrderSpec Rows.fnExactPermOrderRow = true := by
  unfold joinedFacts
  rw [may, made, lifts]
  kernel_rfl

theorem over : Rows.fnExactPermOrderRow.holds Try.pinned (OpenSpec.ofChange Rows.fnExactPermOrderSpec) :=
  OpenClaim.holds_of_wide 11 Try.f11 rfl rfl rfl rfl rfl rfl rfl ⟨rfl, rfl, rfl, rfl, rfl⟩ rfl rfl rfl rfl rfl (by kernel_rfl) Try.func11 closed
    (of_decide_eq_true (by kernel_rfl)) (by unfold Func.isWrapper; first | (rw [if_pos (by decide +kernel)]; kernel_rfl) | (rw [if_neg (by decide +kernel)]; exact ⟨rfl, rfl⟩))
    (fun os started H enc _ => lifted os started H enc)

/-- The given statement. -/
theorem proved : Rows.FnExactPermOrderSaid := over
#print axioms proved

end Go.Proofs.Ytldjlabllhnpjaa.fnExactPermOrder
