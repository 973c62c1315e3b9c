/- Proves the given statement on laws.FnPerm: whatever the input, the law returns true and its input reads as it did. No conditions. -/
import Derived.Test.YtldjlabllhnpjaaFr
import Derived.Test.YtldjlabllhnpjaaWrd
import Derived.Test.YtldjlabllhnpjaaWDrawP
import Derived.Test.YtldjlabllhnpjaaWPt
import Derived.Test.YtldjlabllhnpjaaWMark
set_option linter.unusedVariables false
namespace Go.Proofs.Ytldjlabllhnpjaa.fnPerm
open Go.ChangeShapes Go.WideShapes Go.ChangeAt Go.RowKit
open Go.ChangeMaps (open_string shut_string)
open Res

theorem walk (a0 : Option Addr) (len0 cap0 : Nat) (z0 : List Int) (w : World) (w0 : IsRow .u8 w a0 len0 cap0 z0) :
    Calls Try.prog 4 #[.slice a0 len0 cap0] w fun e w' => e = .returned (.bool true) ∧ Below w.heap.size w w' := by
  obtain ⟨hc, hlen⟩ := w0.code
  clear w0
  generalize z0.take len0 = l at *
  subst hlen
  by_cases hbig : 1048576 < l.length
  · go_enter Try.func4, Try.ntmps4
    go_wp2
    go_ret
    exact ⟨rfl, Below.refl _ _⟩
  · have hl : (l.length : Int) ≤ 1048576 := by omega
    go_enter Try.func4, Try.ntmps4
    go_wp2_with fail
    refine (DrawPermValid_any _ _ l _ hc).mono ?_
    rintro e w1 ⟨v1, L, rfl, hO1, hL, hb1⟩
    obtain ⟨a1, c1, rfl, hR1, hl1, hc1⟩ := hO1.shape
    have C1 := Lib.hid (fun a c w hr => implPermValid_any a c L w (by omega) hr)
    have C2 := Lib.hid (fun a c w hr => specPermValid_any a c L w (by omega) hr)
    clear hO1
    cases hv : permOk L
    · rw [hv] at C1 C2
      go_wp2_with fail
      refine (C1.out _ _ _ hR1).mono ?_
      rintro e w' ⟨rfl, rfl⟩
      go_wp2_with fail
      refine (C2.out _ _ _ hR1).mono ?_
      rintro e w' ⟨rfl, rfl⟩
      go_wp2_with fail
      go_ret
      exact ⟨rfl, hb1⟩
    · rw [hv] at C1 C2
      obtain ⟨hl24, hok⟩ := permOk_ok hv
      have C3 := Lib.hid (fun a c w hr => implPermWord_ok a c L 16777215 w hr (by unfold pwOk; rw [hv]; rfl))
      rw [show (16777215 : Int).toNat = 16777215 from rfl, mvW_full hl24 hok] at C3
      have C4 := Lib.hid (fun a c w hr => implPermTurned_ok a c L w hr hv)
      have C5 := Lib.hid (fun a b c d w hr hs => implPermTimes_ok a b c d L (tnL L) w hr hs hv (tnL_perm hv))
      have C6 := Lib.hid (fun a c w hr => implPermFixed_ok a c (tmL L (tnL L)) w hr (tmL_perm hv (tnL_perm hv)))
      rw [fixed_back hok] at C6
      have hT : (tnL L).length ≤ 24 := Nat.le_of_eq (tnTo_length _ _)
      have hM : (tmL L (tnL L)).length ≤ 24 := Nat.le_of_eq (tmTo_length _ _ _)
      generalize tmL L (tnL L) = M at *
      generalize tnL L = T at *
      clear hv hl24 hok
      go_wp2_with fail
      refine (C1.out _ _ _ hR1).mono ?_
      rintro e w' ⟨rfl, rfl⟩
      go_wp2_with fail
      refine (C2.out _ _ _ hR1).mono ?_
      rintro e w' ⟨rfl, rfl⟩
      go_wp2_with fail
      refine (C3.out _ _ _ hR1).mono ?_
      rintro e w2 ⟨rfl, hs2⟩
      have hb2 := hb1.trans (hs2.mono hb1.size)
      go_wp2_with fail
      refine (C4.out _ _ _ (hR1.kept hs2)).mono ?_
      rintro e w3 ⟨v3, rfl, hO3, hs3⟩
      obtain ⟨a3, c3, rfl, hR3, hl3, hc3⟩ := hO3.shape
      have hb3 := hb2.trans (hs3.mono hb2.size)
      go_wp2_with fail
      refine (C5.out _ _ _ _ _ (hR1.kept (bel2 hs2 hs3)) hR3).mono ?_
      rintro e w4 ⟨v4, rfl, hO4, hs4⟩
      obtain ⟨a4, c4, rfl, hR4, hl4, hc4⟩ := hO4.shape
      have hb4 := hb3.trans (hs4.mono hb3.size)
      go_wp2_with fail
      refine (C6.out _ _ _ hR4).mono ?_
      rintro e w' ⟨rfl, rfl⟩
      go_wp2_with fail
      go_ret
      exact ⟨rfl, hb4⟩

set_option maxRecDepth 100000 in
theorem lifted (os : Os) (started : os.Started) (H : Type) (enc : TypeId × Value → H) :
    ReturnsInHanded {} Try.checked os 4 .any (Rows.fnPermSpec.pre6 enc Try.prog Try.f4 Rows.fnPermRow.domain false) (Rows.fnPermSpec.post enc Try.prog Try.f4 false true false false) := by
  refine returnsInHanded_of_change (C := Try.checked) own started (by kernel_rfl) Try.func4
    (ChangeSpec.witness6 (enc := enc) (C := Try.checked) false ⟨#[], #[.slice none 0 0], []⟩ 8 (by kernel_rfl) (by kernel_rfl) (by kernel_rfl) (by kernel_rfl)) ?_
  intro W base args ds gs before hval0 hW hcnd _
  have hval : ∀ (j : Nat) t v, Try.f4.params[j]? = some t → args[j]? = some v → Value.okWide Try.prog W .any base t v := hval0
  have hW' := hW
  obtain ⟨p, q, hA0, hV, rfl, hfz, hnd⟩ := hW
  have hA : DataW.TrodAll enc Try.prog W 0 (fun _ => true) true Try.f4.params.toList args.toList ds p := hA0
  rw [Try.params4] at hA hval
  obtain ⟨v0, vs0, d0, ds0, p0, q0, hargs, rfl, rfl, h0, r0⟩ := trodAll_cons hA
  obtain ⟨rfl, rfl, rfl⟩ := trodAll_nil r0
  obtain rfl : args = #[v0] := by cases args; simp_all
  obtain ⟨rfl, rfl⟩ := trodVars_none hV
  obtain ⟨a0, len0, cap0, rfl⟩ := okWide_slice Try.underlying29 (hval 0 29 v0 rfl rfl)
  have k0 := h0
  have lt0 : ∀ x ∈ p0, x.block < W.heap.size := by obtain ⟨m, hm⟩ := k0; exact DataW.trod_lt m _ _ _ hm
  obtain ⟨z0, w0⟩ : ∃ zs, IsRow .u8 W a0 len0 cap0 zs := by
    obtain ⟨fuel, hf⟩ := h0
    rcases open_ints Try.underlying29 Try.underlying5 (by kernel_rfl) hf with ⟨hcs, _⟩ | ⟨x, l, c, zs, hcs, _, hl, hm, hz, _, hcell, hwz⟩
    · simp [Value.cells] at hcs
      obtain ⟨rfl, rfl, rfl⟩ := hcs
      exact ⟨[], .inl ⟨rfl, rfl, rfl, rfl⟩⟩
    · simp [Value.cells] at hcs
      obtain ⟨rfl, rfl, rfl⟩ := hcs
      exact ⟨zs, .inr ⟨_, rfl, hl, hm, by simpa using hz, hcell, hwz⟩⟩
  clear hA0 hval0
  refine (walk a0 len0 cap0 z0 W w0).mono fun e W' ⟨he, bel⟩ => ?_
  subst he
  exact ⟨_, rfl, _, _, _, [], _, [], hW', trodAll_mk1 (shut_bool Try.underlying4 _), (trodAll_cons_mk (Below.trod laidOut (by kernel_rfl) (of_decide_eq_true (by kernel_rfl)) k0 bel lt0) trodAll_mk0), rfl, bel.frame _, fun h => by cases h⟩

theorem closed : joinedFacts Try.checked.prog 4 Try.f4 Rows.fnPermSpec Rows.fnPermRow = true := by
  unfold joinedFacts
  rw [may, made, lifts]
  kernel_rfl

theorem over : Rows.fnPermRow.holds Try.pinned (OpenSpec.ofChange Rows.fnPermSpec) :=
  OpenClaim.holds_of_wide 4 Try.f4 rfl rfl rfl rfl rfl rfl rfl ⟨rfl, rfl, rfl, rfl, rfl⟩ rfl rfl rfl rfl rfl (by kernel_rfl) Try.func4 closed
    (of_decide_eq_true (by kernel_rfl)) (by unfold Func.isWrapper; first | (rw [if_pos (by decide +kernel)]; kernel_rfl) | (rw [if_neg (by decide +kernel)]; exact ⟨rfl, rfl⟩))
    (fun os started H enc _ => lifted os started H enc)

/-- The given statement. -/
theorem proved : Rows.FnPermSaid := over
#print axioms proved

end Go.Proofs.Ytldjlabllhnpjaa.fnPerm
