/- Proves the given statement on laws.FnCycles: whatever the input, the law returns true and its input reads as it did. No conditions. -/
import Derived.Test.YtldjlabllhnpjaaFr
import Derived.Test.YtldjlabllhnpjaaWrd
import Derived.Test.YtldjlabllhnpjaaWDrawP
import Derived.Test.YtldjlabllhnpjaaWPt
import Derived.Test.YtldjlabllhnpjaaWCyc
import Derived.Test.YtldjlabllhnpjaaCyO
import Derived.Test.YtldjlabllhnpjaaWSame
import Derived.Test.YtldjlabllhnpjaaWMark
import Derived.Test.YtldjlabllhnpjaaWWd
set_option linter.unusedVariables false
namespace Go.Proofs.Ytldjlabllhnpjaa.fnCycles
open Go.ChangeShapes Go.WideShapes Go.ChangeAt Go.RowKit
open Go.ChangeMaps (open_string shut_string)
open Res

set_option maxHeartbeats 1000000 in
theorem walk (a0 : Option Addr) (len0 cap0 : Nat) (z0 : List Int) (w : World) (w0 : IsRow .u8 w a0 len0 cap0 z0) :
    Calls Try.prog 12 #[.slice a0 len0 cap0] w fun e w' => e = .returned (.bool true) ∧ Below w.heap.size w w' := by
  obtain ⟨hc, hlen⟩ := w0.code
  clear w0
  generalize z0.take len0 = l at *
  subst hlen
  by_cases hbig : 1048576 < l.length
  · go_enter Try.func12, Try.ntmps12
    go_wp2
    go_ret
    exact ⟨rfl, Below.refl _ _⟩
  · have hl : (l.length : Int) ≤ 1048576 := by omega
    go_enter Try.func12, Try.ntmps12
    go_wp2_with fail
    refine (DrawPermCycles_any _ _ l _ hc).mono ?_
    rintro e w1 ⟨v1, M, rfl, hO1, hM, hb1⟩
    obtain ⟨a1, c1, rfl, hR1, hl1, hc1⟩ := hO1.shape
    clear hO1
    cases hv : permOk M
    · have C1 := Lib.hid (fun a c w hr => implPermCycles_no a c M w (by omega) hr hv)
      have C2 := Lib.hid (fun a c w hr => specPermCycles_no a c M w (by omega) hr hv)
      clear hv
      go_wp2_with fail
      refine (C1.out _ _ _ hR1).mono ?_
      rintro e w2 ⟨v2, rfl, hO2, hs2⟩
      obtain ⟨a2, c2, rfl, hR2, hl2, hc2⟩ := hO2.shape
      have hb2 := hb1.trans (hs2.mono hb1.size)
      go_wp2_with fail
      refine (C2.out _ _ _ (hR1.kept hs2)).mono ?_
      rintro e w3 ⟨v3, rfl, hO3, hs3⟩
      obtain ⟨a3, c3, rfl, hR3, hl3, hc3⟩ := hO3.shape
      have hb3 := hb2.trans (hs3.mono hb2.size)
      go_wp2_with fail
      refine (sameInts_same _ _ _ _ [] _ (by simp) (hR2.kept hs3) hR3).mono ?_
      rintro e w4 ⟨rfl, hs4⟩
      have hb4 := hb3.trans (hs4.mono hb3.size)
      go_wp2_with fail
      refine (sameInts_same _ _ _ _ [] _ (by simp) (hR2.kept (bel2 hs3 hs4)) (hR3.kept hs4)).mono ?_
      rintro e w5 ⟨rfl, hs5⟩
      have hb5 := hb4.trans (hs5.mono hb4.size)
      go_wp2_with fail
      go_ret
      exact ⟨rfl, hb5⟩
    · obtain ⟨l24, ok⟩ := permOk_ok hv
      have C1 := Lib.hid (fun a c w hr => implPermCycles_ok a c M w hr hv)
      have C2 := Lib.hid (fun a c w hr => specPermCycles_ok a c M w hr hv)
      have C3 := Lib.hid (fun a c w hr => implPermFixed_ok a c M w hr hv)
      have hfx := fxTo_lt M 24
      have C4 := Lib.hid (fun w => WordWeight_ok ((fxW M : Nat) : Int) w (by omega) (by unfold fxW; omega))
      rw [Int.toNat_natCast] at C4
      have HA := Lib.hid (smTo_all (cyL M))
      rw [cyL_sum ok, cyL_ones ok] at HA
      have hwt := wt_le (fxW M)
      have HR := Lib.hid (fun k (hk : k < (cyL M).length) => cyL_range ok hk)
      have HI := Lib.hid (fun q (hk : q + 1 < (cyL M).length) => cyL_order M (show q < q + 1 by omega) hk)
      have hS := cyL_length M
      generalize fxW M = f at *
      generalize wt f = wf at *
      generalize cyL M = S at *
      have HB := Lib.hid (fun k hk => smTo_bd HR.out k hk)
      have HT : Hid (∀ k, smTo S (k + 1) = smTo S k + S.getD k 0) := Lib.hid (fun _ => rfl)
      have HO1 := Lib.hid (fun k => @onTo_hit S k)
      have HO0 := Lib.hid (fun k => @onTo_miss S k)
      have HZ1 : Hid (smTo S 0 = 0) := Lib.hid rfl
      have HZ2 : Hid (onTo S 0 = 0) := Lib.hid rfl
      generalize smTo S = D at *
      generalize onTo S = E at *
      clear hv l24 ok hfx
      go_wp2_with fail
      refine (C1.out _ _ _ hR1).mono ?_
      rintro e w2 ⟨v2, rfl, hO2, hs2⟩
      obtain ⟨a2, c2, rfl, hR2, hl2, hc2⟩ := hO2.shape
      have hb2 := hb1.trans (hs2.mono hb1.size)
      go_wp2_with fail
      refine (C2.out _ _ _ (hR1.kept hs2)).mono ?_
      rintro e w3 ⟨v3, rfl, hO3, hs3⟩
      obtain ⟨a3, c3, rfl, hR3, hl3, hc3⟩ := hO3.shape
      have hb3 := hb2.trans (hs3.mono hb2.size)
      go_wp2_with fail
      refine (sameInts_same _ _ _ _ S _ (by omega) (hR2.kept hs3) hR3).mono ?_
      rintro e w4 ⟨rfl, hs4⟩
      have hb4 := hb3.trans (hs4.mono hb3.size)
      have hRS := (hR2.kept (bel2 hs3 hs4))
      go_wp2_with fail
      go_loopw [8, 9, 10] (fun s o x wr => ∃ k : Nat, k ≤ S.length ∧ x = .int .i64 (k : Int) ∧ s = .int .i64 (D k) ∧ o = .int .i64 (E k) ∧ ∃ n, wr = w4.drewN n)
        (fun _ _ x _ => (S.length - (intOf x).toNat))
      case atStart => exact ⟨0, by omega, rfl, by rw [HZ1.out], by rw [HZ2.out], 0, rfl⟩
      case round =>
        obtain ⟨k, hk, rfl, rfl, rfl, nd, rfl⟩ := hrel
        by_cases hlt : k < S.length
        · have hki : (k : Int) < (S.length : Int) := by omega
          obtain ⟨b, off, ha, hbl, hcl⟩ := hRS k hlt
          have hst := HT.out k
          obtain ⟨hd1, hd2, he1, he2⟩ := HB.out k hk
          obtain ⟨hg1, hg2⟩ := HR.out k hlt
          have hprev := fun q (e : q + 1 = k) => HI.out q (by omega)
          have hcq : ∀ q, q + 1 = k → w4.cell? ⟨b, off + q, none⟩ = some (.int .i64 (S.getD q 0)) := fun q e => by
            obtain ⟨b', off', ha', -, h⟩ := hRS q (by omega)
            rw [ha] at ha'
            simp only [Option.some.injEq, Addr.mk.injEq, and_true] at ha'
            obtain ⟨rfl, rfl⟩ := ha'
            exact h
          subst ha
          have HH := Lib.hid (HO1.out k)
          have HM := Lib.hid (HO0.out k)
          rw [getD_get hlt] at hcl hst hg1 hg2 HH HM
          have HST := Lib.hid hst
          clear hst
          have hE : ∃ (o2 : Int), Hid (E (k + 1) = o2) ∧ ((S[k] == 1) = true ∧ o2 = E k + 1 ∨ (S[k] == 1) = false ∧ o2 = E k) := by
            by_cases h1 : S[k] = 1
            · exact ⟨_, Lib.hid (HH.out h1), .inl ⟨by rw [h1]; rfl, rfl⟩⟩
            · exact ⟨_, Lib.hid (HM.out h1), .inr ⟨by rw [beq_eq_false_iff_ne]; exact h1, rfl⟩⟩
          obtain ⟨o2, HE, hE⟩ := hE
          clear HH HM
          by_cases hz : k = 0
          · subst hz
            clear hprev hcq
            rw [Nat.add_zero] at hcl
            generalize S[0] = x at *
            generalize D 0 = d at *
            generalize E 0 = o at *
            rcases hE with ⟨h1, rfl⟩ | ⟨h1, rfl⟩
            all_goals
              go_wp2
              go_quiet (fail)
              go_wp2
              go_roundw
              case rel => exact ⟨0 + 1, by omega, by go_num, by rw [HST.out], by rw [HE.out], _, rfl⟩
              case measure => simp [intOf]; omega
          · obtain ⟨q, rfl⟩ : ∃ q, k = q + 1 := ⟨k - 1, by omega⟩
            have hc2 := hcq q rfl
            have hord := hprev q rfl
            rw [getD_get hlt] at hord
            clear hprev hcq hz
            generalize S[q + 1] = x at *
            generalize S.getD q 0 = x2 at *
            generalize D (q + 1) = d at *
            generalize E (q + 1) = o at *
            have hno : decide (x < x2) = false := by rw [decide_eq_false_iff_not]; omega
            have hq1 : (q : Int) < (S.length : Int) := by omega
            have hw65 : IntKind.i64.wrap (q : Int) = (q : Int) := wrap_nat q (by omega)
            rcases hE with ⟨h1, rfl⟩ | ⟨h1, rfl⟩
            all_goals
              go_wp2
              go_quiet (fail)
              go_wp2
              go_roundw
              case rel => exact ⟨q + 1 + 1, by omega, by go_num, by rw [HST.out], by rw [HE.out], _, rfl⟩
              case measure => simp [intOf]; omega
        · obtain rfl : k = S.length := by omega
          have h1 := HA.out.1
          have h2 := HA.out.2
          clear hlt hk
          generalize D S.length = d at *
          generalize E S.length = o at *
          subst h1
          subst h2
          go_wp2_with fail
          refine (C3.out _ _ _ (((hR1.kept (bel2 (bel2 hs2 hs3) hs4))).kept (below_drewN (Below.refl _ _) _))).mono ?_
          rintro e w' ⟨rfl, rfl⟩
          go_wp2_with fail
          refine (C4.out _).mono ?_
          rintro e w' ⟨rfl, rfl⟩
          go_wp2_with fail
          go_ret
          exact ⟨rfl, below_drewN hb4 _⟩

set_option maxRecDepth 100000 in
theorem lifted (os : Os) (started : os.Started) (H : Type) (enc : TypeId × Value → H) :
    ReturnsInHanded {} Try.checked os 12 .any (Rows.fnCyclesSpec.pre6 enc Try.prog Try.f12 Rows.fnCyclesRow.domain false) (Rows.fnCyclesSpec.post enc Try.prog Try.f12 false true false false) := by
  refine returnsInHanded_of_change (C := Try.checked) own started (by kernel_rfl) Try.func12
    (ChangeSpec.witness6 (enc := enc) (C := Try.checked) false ⟨#[], #[.slice none 0 0], []⟩ 8 (by kernel_rfl) (by kernel_rfl) (by kernel_rfl) (by kernel_rfl)) ?_
  intro W base args ds gs before hval0 hW hcnd _
  have hval : ∀ (j : Nat) t v, Try.f12.params[j]? = some t → args[j]? = some v → Value.okWide Try.prog W .any base t v := hval0
  have hW' := hW
  obtain ⟨p, q, hA0, hV, rfl, hfz, hnd⟩ := hW
  have hA : DataW.TrodAll enc Try.prog W 0 (fun _ => true) true Try.f12.params.toList args.toList ds p := hA0
  rw [Try.params12] at hA hval
  obtain ⟨v0, vs0, d0, ds0, p0, q0, hargs, rfl, rfl, h0, r0⟩ := trodAll_cons hA
  obtain ⟨rfl, rfl, rfl⟩ := trodAll_nil r0
  obtain rfl : args = #[v0] := by cases args; simp_all
  obtain ⟨rfl, rfl⟩ := trodVars_none hV
  obtain ⟨a0, len0, cap0, rfl⟩ := okWide_slice Try.underlying29 (hval 0 29 v0 rfl rfl)
  have k0 := h0
  have lt0 : ∀ x ∈ p0, x.block < W.heap.size := by obtain ⟨m, hm⟩ := k0; exact DataW.trod_lt m _ _ _ hm
  obtain ⟨z0, w0⟩ : ∃ zs, IsRow .u8 W a0 len0 cap0 zs := by
    obtain ⟨fuel, hf⟩ := h0
    rcases open_ints Try.underlying29 Try.underlying5 (by kernel_rfl) hf with ⟨hcs, _⟩ | ⟨x, l, c, zs, hcs, _, hl, hm, hz, _, hcell, hwz⟩
    · simp [Value.cells] at hcs
      obtain ⟨rfl, rfl, rfl⟩ := hcs
      exact ⟨[], .inl ⟨rfl, rfl, rfl, rfl⟩⟩
    · simp [Value.cells] at hcs
      obtain ⟨rfl, rfl, rfl⟩ := hcs
      exact ⟨zs, .inr ⟨_, rfl, hl, hm, by simpa using hz, hcell, hwz⟩⟩
  clear hA0 hval0
  refine (walk a0 len0 cap0 z0 W w0).mono fun e W' ⟨he, bel⟩ => ?_
  subst he
  exact ⟨_, rfl, _, _, _, [], _, [], hW', trodAll_mk1 (shut_bool Try.underlying4 _), (trodAll_cons_mk (Below.trod laidOut (by kernel_rfl) (of_decide_eq_true (by kernel_rfl)) k0 bel lt0) trodAll_mk0), rfl, bel.frame _, fun h => by cases h⟩

theorem closed : joinedFacts Try.checked.prog 12 Try.f12 Rows.fnCyclesSpec Rows.fnCyclesRow = true := by
  unfold joinedFacts
  rw [may, made, lifts]
  kernel_rfl

theorem over : Rows.fnCyclesRow.holds Try.pinned (OpenSpec.ofChange Rows.fnCyclesSpec) :=
  OpenClaim.holds_of_wide 12 Try.f12 rfl rfl rfl rfl rfl rfl rfl ⟨rfl, rfl, rfl, rfl, rfl⟩ rfl rfl rfl rfl rfl (by kernel_rfl) Try.func12 closed
    (of_decide_eq_true (by kernel_rfl)) (by unfold Func.isWrapper; first | (rw [if_pos (by decide +kernel)]; kernel_rfl) | (rw [if_neg (by decide +kernel)]; exact ⟨rfl, rfl⟩))
    (fun os started H enc _ => lifted os started H enc)

/-- The given statement. -/
theorem proved : Rows.FnCyclesSaid := over
#print axioms proved

end Go.Proofs.Ytldjlabllhnpjaa.fnCycles
