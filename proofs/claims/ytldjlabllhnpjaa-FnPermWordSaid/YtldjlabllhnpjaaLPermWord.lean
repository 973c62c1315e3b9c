/- Proves the given statement on laws.FnPermWord: whatever the input, the law returns true and its input reads as it did. No conditions. -/
import Derived.Test.YtldjlabllhnpjaaFr
import Derived.Test.YtldjlabllhnpjaaWrd
import Derived.Test.YtldjlabllhnpjaaWDrawP
import Derived.Test.YtldjlabllhnpjaaWPt
import Derived.Test.YtldjlabllhnpjaaWKp
import Derived.Test.YtldjlabllhnpjaaWMark
set_option linter.unusedVariables false
namespace Go.Proofs.Ytldjlabllhnpjaa.fnPermWord
open Go.ChangeShapes Go.WideShapes Go.ChangeAt Go.RowKit
open Go.ChangeMaps (open_string shut_string)
open Res

set_option maxHeartbeats 1000000 in
theorem walk (a0 : Option Addr) (len0 cap0 : Nat) (z0 : List Int) (w : World) (w0 : IsRow .u8 w a0 len0 cap0 z0) :
    Calls Try.prog 9 #[.slice a0 len0 cap0] w fun e w' => e = .returned (.bool true) ∧ Below w.heap.size w w' := by
  obtain ⟨hc, hlen⟩ := w0.code
  clear w0
  generalize z0.take len0 = l at *
  subst hlen
  by_cases hbig : 1048576 < l.length
  · go_enter Try.func9, Try.ntmps9
    go_wp2
    go_ret
    exact ⟨rfl, Below.refl _ _⟩
  · have hl : (l.length : Int) ≤ 1048576 := by omega
    go_enter Try.func9, Try.ntmps9
    go_wp2_with fail
    refine (DrawPermWord_any _ _ l _ hc).mono ?_
    rintro e w1 ⟨v1, L, n, rfl, hO1, hL, hb1⟩
    obtain ⟨a1, c1, rfl, hR1, hl1, hc1⟩ := hO1.shape
    clear hO1
    cases hv : pwOk L n
    · have C1 := Lib.hid (fun a c w hr => implPermWord_no a c L n w (by omega) hr hv)
      have C2 := Lib.hid (fun a c w hr => specPermWord_no a c L n w (by omega) hr hv)
      clear hv
      go_wp2_with fail
      refine (C1.out _ _ _ hR1).mono ?_
      rintro e w' ⟨rfl, rfl⟩
      go_wp2_with fail
      refine (C2.out _ _ _ hR1).mono ?_
      rintro e w' ⟨rfl, rfl⟩
      go_wp2_with fail
      go_ret
      exact ⟨rfl, hb1⟩
    · have C1 := Lib.hid (fun a c w hr => implPermWord_ok a c L n w hr hv)
      have C2 := Lib.hid (fun a c w hr => specPermWord_ok a c L n w hr hv)
      have hvv := hv
      unfold pwOk at hvv
      rw [Bool.and_eq_true, inB_iff] at hvv
      obtain ⟨hp, hn0, hn1⟩ := hvv
      obtain ⟨hl24, hok⟩ := permOk_ok hp
      have hml := mvW_lt hok n.toNat
      have C3 := Lib.hid (fun a c w hr => implPermTurned_ok a c L w hr hp)
      have C4 := Lib.hid (fun a c w hr => implPermWord_ok a c (tnL L) ((mvW L n.toNat : Nat) : Int) w hr (by unfold pwOk; rw [tnL_perm hp, inB_true (by omega) (by omega)]; rfl))
      rw [Int.toNat_natCast, mvW_tn hl24 hok (show n.toNat < 16777216 by omega)] at C4
      have C5 := Lib.hid (fun w => WordWeight_ok ((mvW L n.toNat : Nat) : Int) w (by omega) (by omega))
      rw [Int.toNat_natCast, mvW_wt hok] at C5
      have C6 := Lib.hid (fun w => WordWeight_ok n w hn0 hn1)
      have C7 := Lib.hid (fun a c w hr => implPermKeeps_any a c L w (by omega) hr)
      have C8 := Lib.hid (fun w => implCodeIn_ok ((mvW L n.toNat : Nat) : Int) w (by omega) (by omega))
      rw [Int.toNat_natCast] at C8
      have C9 := Lib.hid (fun w => implCodeIn_ok n w hn0 hn1)
      have HK : Hid (keepB L = true → codeB (mvW L n.toNat) = codeB n.toNat) := Lib.hid (fun x => keep_iff x (by omega))
      have hT : (tnL L).length ≤ 24 := Nat.le_of_eq (tnTo_length _ _)
      have hnn : ((n.toNat : Nat) : Int) = n := by omega
      generalize tnL L = T at *
      generalize mvW L n.toNat = y at *
      generalize wt n.toNat = z at *
      rw [hnn] at C4
      clear hv hp hl24 hok hnn
      go_wp2_with fail
      refine (C1.out _ _ _ hR1).mono ?_
      rintro e w2 ⟨rfl, hs2⟩
      have hb2 := hb1.trans (hs2.mono hb1.size)
      go_wp2_with fail
      refine (C2.out _ _ _ (hR1.kept hs2)).mono ?_
      rintro e w3 ⟨rfl, hs3⟩
      have hb3 := hb2.trans (hs3.mono hb2.size)
      go_wp2_with fail
      refine (C3.out _ _ _ (hR1.kept (bel2 hs2 hs3))).mono ?_
      rintro e w4 ⟨v4, rfl, hO4, hs4⟩
      obtain ⟨a4, c4, rfl, hR4, hl4, hc4⟩ := hO4.shape
      have hb4 := hb3.trans (hs4.mono hb3.size)
      go_wp2_with fail
      refine (C4.out _ _ _ hR4).mono ?_
      rintro e w5 ⟨rfl, hs5⟩
      have hb5 := hb4.trans (hs5.mono hb4.size)
      go_wp2_with fail
      refine (C5.out _).mono ?_
      rintro e w' ⟨rfl, rfl⟩
      go_wp2_with fail
      refine (C6.out _).mono ?_
      rintro e w' ⟨rfl, rfl⟩
      go_wp2_with fail
      refine (C7.out _ _ _ (hR1.kept (bel2 (bel2 (bel2 hs2 hs3) hs4) hs5))).mono ?_
      rintro e w6 ⟨rfl, hs6⟩
      have hb6 := hb5.trans (hs6.mono hb5.size)
      cases hA : keepB L
      · go_wp2_with fail
        go_ret
        exact ⟨rfl, hb6⟩
      · rw [HK.out hA] at C8
        clear HK hA
        go_wp2_with fail
        refine (C8.out _).mono ?_
        rintro e w7 ⟨rfl, hs7⟩
        have hb7 := hb6.trans (hs7.mono hb6.size)
        go_wp2_with fail
        refine (C9.out _).mono ?_
        rintro e w8 ⟨rfl, hs8⟩
        have hb8 := hb7.trans (hs8.mono hb7.size)
        cases hz : codeB n.toNat
        · go_wp2_with fail
          go_ret
          exact ⟨rfl, hb8⟩
        · go_wp2_with fail
          go_ret
          exact ⟨rfl, hb8⟩

set_option maxRecDepth 100000 in
theorem lifted (os : Os) (started : os.Started) (H : Type) (enc : TypeId × Value → H) :
    ReturnsInHanded {} Try.checked os 9 .any (Rows.fnPermWordSpec.pre6 enc Try.prog Try.f9 Rows.fnPermWordRow.domain false) (Rows.fnPermWordSpec.post enc Try.prog Try.f9 false true false false) := by
  refine returnsInHanded_of_change (C := Try.checked) own started (by kernel_rfl) Try.func9
    (ChangeSpec.witness6 (enc := enc) (C := Try.checked) false ⟨#[], #[.slice none 0 0], []⟩ 8 (by kernel_rfl) (by kernel_rfl) (by kernel_rfl) (by kernel_rfl)) ?_
  intro W base args ds gs before hval0 hW hcnd _
  have hval : ∀ (j : Nat) t v, Try.f9.params[j]? = some t → args[j]? = some v → Value.okWide Try.prog W .any base t v := hval0
  have hW' := hW
  obtain ⟨p, q, hA0, hV, rfl, hfz, hnd⟩ := hW
  have hA : DataW.TrodAll enc Try.prog W 0 (fun _ => true) true Try.f9.params.toList args.toList ds p := hA0
  rw [Try.params9] at hA hval
  obtain ⟨v0, vs0, d0, ds0, p0, q0, hargs, rfl, rfl, h0, r0⟩ := trodAll_cons hA
  obtain ⟨rfl, rfl, rfl⟩ := trodAll_nil r0
  obtain rfl : args = #[v0] := by cases args; simp_all
  obtain ⟨rfl, rfl⟩ := trodVars_none hV
  obtain ⟨a0, len0, cap0, rfl⟩ := okWide_slice Try.underlying29 (hval 0 29 v0 rfl rfl)
  have k0 := h0
  have lt0 : ∀ x ∈ p0, x.block < W.heap.size := by obtain ⟨m, hm⟩ := k0; exact DataW.trod_lt m _ _ _ hm
  obtain ⟨z0, w0⟩ : ∃ zs, IsRow .u8 W a0 len0 cap0 zs := by
    obtain ⟨fuel, hf⟩ := h0
    rcases open_ints Try.underlying29 Try.underlying5 (by kernel_rfl) hf with ⟨hcs, _⟩ | ⟨x, l, c, zs, hcs, _, hl, hm, hz, _, hcell, hwz⟩
    · simp [Value.cells] at hcs
      obtain ⟨rfl, rfl, rfl⟩ := hcs
      exact ⟨[], .inl ⟨rfl, rfl, rfl, rfl⟩⟩
    · simp [Value.cells] at hcs
      obtain ⟨rfl, rfl, rfl⟩ := hcs
      exact ⟨zs, .inr ⟨_, rfl, hl, hm, by simpa using hz, hcell, hwz⟩⟩
  clear hA0 hval0
  refine (walk a0 len0 cap0 z0 W w0).mono fun e W' ⟨he, bel⟩ => ?_
  subst he
  exact ⟨_, rfl, _, _, _, [], _, [], hW', trodAll_mk1 (shut_bool Try.underlying4 _), (trodAll_cons_mk (Below.trod laidOut (by kernel_rfl) (of_decide_eq_true (by kernel_rfl)) k0 bel lt0) trodAll_mk0), rfl, bel.frame _, fun h => by cases h⟩

theorem closed : joinedFacts Try.checked.prog 9 Try.f9 Rows.fnPermWordSpec Rows.fnPermWordRow = true := by
  unfold joinedFacts
  rw [may, made, lifts]
  kernel_rfl

theorem over : Rows.fnPermWordRow.holds Try.pinned (OpenSpec.ofChange Rows.fnPermWordSpec) :=
  OpenClaim.holds_of_wide 9 Try.f9 rfl rfl rfl rfl rfl rfl rfl ⟨rfl, rfl, rfl, rfl, rfl⟩ rfl rfl rfl rfl rfl (by kernel_rfl) Try.func9 closed
    (of_decide_eq_true (by kernel_rfl)) (by unfold Func.isWrapper; first | (rw [if_pos (by decide +kernel)]; kernel_rfl) | (rw [if_neg (by decide +kernel)]; exact ⟨rfl, rfl⟩))
    (fun os started H enc _ => lifted os started H enc)

/-- The given statement. -/
theorem proved : Rows.FnPermWordSaid := over
#print axioms proved

end Go.Proofs.Ytldjlabllhnpjaa.fnPermWord
