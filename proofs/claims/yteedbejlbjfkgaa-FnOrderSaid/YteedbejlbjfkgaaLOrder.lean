/- Proves the given statement on laws.FnOrder: whatever the input, the law returns true and its input reads as it did. No conditions. -/
import Derived.Test.YteedbejlbjfkgaaFr
import Derived.Test.YteedbejlbjfkgaaWrd
import Derived.Test.YteedbejlbjfkgaaWDrawP
import Derived.Test.YteedbejlbjfkgaaWOrd
import Derived.Test.YteedbejlbjfkgaaWKp
import Derived.Test.YteedbejlbjfkgaaWMark
import Derived.Test.YteedbejlbjfkgaaOrd24
set_option linter.unusedVariables false
namespace Go.Proofs.Yteedbejlbjfkgaa.fnOrder
open Go.ChangeShapes Go.WideShapes Go.ChangeAt Go.RowKit
open Go.ChangeMaps (open_string shut_string)
open Res

theorem ord_cases {n : Nat} (h : ordOk n = true) : (1 ≤ n ∧ n ≤ 8) ∨ (10 ≤ n ∧ n ≤ 12) ∨ n = 14 ∨ n = 15 ∨ n = 21 ∨ n = 23 := by
  unfold ordOk at h
  simp only [Bool.and_eq_true, Bool.or_eq_true] at h
  obtain ⟨h1, h2⟩ := h
  have h1 := Nat.le_of_ble_eq_true h1
  rcases h2 with ((((h2 | ⟨h2, h3⟩) | h2) | h2) | h2) | h2
  · exact .inl ⟨h1, Nat.le_of_ble_eq_true h2⟩
  · exact .inr (.inl ⟨Nat.le_of_ble_eq_true h2, Nat.le_of_ble_eq_true h3⟩)
  · exact .inr (.inr (.inl (Nat.eq_of_beq_eq_true h2)))
  · exact .inr (.inr (.inr (.inl (Nat.eq_of_beq_eq_true h2))))
  · exact .inr (.inr (.inr (.inr (.inl (Nat.eq_of_beq_eq_true h2)))))
  · exact .inr (.inr (.inr (.inr (.inr (Nat.eq_of_beq_eq_true h2)))))

set_option maxHeartbeats 1000000 in
theorem walk (a0 : Option Addr) (len0 cap0 : Nat) (z0 : List Int) (w : World) (w0 : IsRow .u8 w a0 len0 cap0 z0) :
    Calls Try.prog 5 #[.slice a0 len0 cap0] w fun e w' => e = .returned (.bool true) ∧ Below w.heap.size w w' := by
  obtain ⟨hc, hlen⟩ := w0.code
  clear w0
  generalize z0.take len0 = l at *
  subst hlen
  by_cases hbig : 1048576 < l.length
  · go_enter Try.func5, Try.ntmps5
    go_wp2
    go_ret
    exact ⟨rfl, Below.refl _ _⟩
  · have hl : (l.length : Int) ≤ 1048576 := by omega
    go_enter Try.func5, Try.ntmps5
    go_wp2_with fail
    refine (DrawPermOrder_any _ _ l _ hc).mono ?_
    rintro e w1 ⟨v1, L, rfl, hO1, hL, hb1⟩
    obtain ⟨a1, c1, rfl, hR1, hl1, hc1⟩ := hO1.shape
    clear hO1
    cases hv : permOk L
    · have C1 := Lib.hid (fun a c w hr => implPermOrder_no a c L w (by omega) hr hv)
      have C2 := Lib.hid (fun a c w hr => specPermOrder_no a c L w (by omega) hr hv)
      clear hv
      go_wp2_with fail
      refine (C1.out _ _ _ hR1).mono ?_
      rintro e w2 ⟨rfl, hs2⟩
      have hb2 := hb1.trans (hs2.mono hb1.size)
      go_wp2_with fail
      refine (C2.out _ _ _ (hR1.kept hs2)).mono ?_
      rintro e w3 ⟨rfl, hs3⟩
      have hb3 := hb2.trans (hs3.mono hb2.size)
      go_wp2_with fail
      go_ret
      exact ⟨rfl, hb3⟩
    · obtain ⟨l24, ok⟩ := permOk_ok hv
      have C1 := Lib.hid (fun a c w hr => implPermOrder_ok a c L w hr hv)
      have C2 := Lib.hid (fun a c w hr => specPermOrder_ok a c L w hr hv)
      have C3 := Lib.hid (fun a c w hr => implPermCycles_ok a c L w hr hv)
      have C4 := Lib.hid (fun a c w hr => implPermKeeps_any a c L w (by omega) hr)
      have HR := Lib.hid (fun k hk => cyL_range (k := k) ok hk)
      have HD := Lib.hid (fun k hk => odL_dvd (cyL L) (k := k) hk)
      have HK : Hid (keepB L = true → ordOk (odL (cyL L)) = true) := Lib.hid order_known
      have hC := cyL_length L
      have hod : 1 ≤ odL (cyL L) ∧ odL (cyL L) ≤ 5354228880 := odTo_bd (fun k hk => cyL_range ok hk) _ (Nat.le_refl _)
      have enn : (((odL (cyL L) : Nat) : Int) != ((odL (cyL L) : Nat) : Int)) = false := by simp
      generalize odL (cyL L) = n at *
      generalize cyL L = C at *
      generalize keepB L = kb at *
      clear hv l24 ok
      go_wp2_with fail
      refine (C1.out _ _ _ hR1).mono ?_
      rintro e w2 ⟨rfl, hs2⟩
      have hb2 := hb1.trans (hs2.mono hb1.size)
      go_wp2_with fail
      refine (C2.out _ _ _ (hR1.kept hs2)).mono ?_
      rintro e w3 ⟨rfl, hs3⟩
      have hb3 := hb2.trans (hs3.mono hb2.size)
      go_wp2_with fail
      refine (C3.out _ _ _ (hR1.kept (bel2 hs2 hs3))).mono ?_
      rintro e w4 ⟨v4, rfl, hO4, hs4⟩
      obtain ⟨a4, c4, rfl, hR4, hl4, hc4⟩ := hO4.shape
      have hb4 := hb3.trans (hs4.mono hb3.size)
      go_wp2_with fail
      go_loop [10] (fun x => ∃ k : Nat, k ≤ C.length ∧ x = .int .i64 (k : Int)) (fun x => (C.length - (intOf x).toNat))
      case atStart => exact ⟨0, by omega, rfl⟩
      case round =>
        obtain ⟨k, hk, rfl⟩ := hrel
        by_cases hlt : k < C.length
        · have hki : (k : Int) < (C.length : Int) := by omega
          obtain ⟨b, off, ha, hb, hcc⟩ := hR4 k hlt
          subst ha
          obtain ⟨g1, g2⟩ := HR.out k hlt
          have hd := HD.out k hlt
          generalize C.getD k 0 = y at *
          obtain ⟨y, rfl⟩ := Int.eq_ofNat_of_zero_le (show 0 ≤ y by omega)
          rw [Int.toNat_natCast] at hd
          have hr : (n : Int).tmod (y : Int) = 0 := by
            rw [Int.tmod_eq_emod_of_nonneg (by omega)]
            have := Nat.mod_eq_zero_of_dvd hd
            omega
          have hne : ((y : Int) == 0) = false := by rw [beq_eq_false_iff_ne]; omega
          have hn0 : (y : Int) ≠ 0 := by omega
          have hw : IntKind.i64.wrap ((n : Int).tmod (y : Int)) = 0 := by rw [hr]; rfl
          clear hd
          go_wp2_with fail
          go_round
          case rel => exact ⟨k + 1, by omega, by go_num⟩
          case measure => simp [intOf]; omega
        · have hkn : ¬ (k : Int) < (C.length : Int) := by omega
          clear HR HD C1 C2 C3 hR4 hO4 hk hlt
          cases hkb : kb
          · rw [hkb] at C4
            have hcl : (1 ≤ n ∧ n ≤ 8) ∨ n = 9 ∨ (10 ≤ n ∧ n ≤ 12) ∨ n = 14 ∨ n = 15 ∨ n = 21 ∨ n = 23 ∨ (12 < n ∧ n ≠ 14 ∧ n ≠ 15 ∧ n ≠ 21 ∧ n ≠ 23) := by omega
            rcases hcl with ⟨f1, f2⟩ | rfl | ⟨f1, f2⟩ | rfl | rfl | rfl | rfl | ⟨f1, f2, f3, f4, f5⟩
            · go_wp2_with (first | (go_at_call 19; refine (C4.out _ _ _ (hR1.kept (bel2 (bel2 hs2 hs3) hs4))).mono ?_; rintro e w5 ⟨rfl, hs5⟩))
              all_goals first | (go_ret; exact ⟨rfl, hb4⟩) | (go_ret; exact ⟨rfl, hb4.trans (hs5.mono hb4.size)⟩)
            · go_wp2_with (first | (go_at_call 19; refine (C4.out _ _ _ (hR1.kept (bel2 (bel2 hs2 hs3) hs4))).mono ?_; rintro e w5 ⟨rfl, hs5⟩))
              all_goals first | (go_ret; exact ⟨rfl, hb4⟩) | (go_ret; exact ⟨rfl, hb4.trans (hs5.mono hb4.size)⟩)
            · go_wp2_with (first | (go_at_call 19; refine (C4.out _ _ _ (hR1.kept (bel2 (bel2 hs2 hs3) hs4))).mono ?_; rintro e w5 ⟨rfl, hs5⟩))
              all_goals first | (go_ret; exact ⟨rfl, hb4⟩) | (go_ret; exact ⟨rfl, hb4.trans (hs5.mono hb4.size)⟩)
            · go_wp2_with (first | (go_at_call 19; refine (C4.out _ _ _ (hR1.kept (bel2 (bel2 hs2 hs3) hs4))).mono ?_; rintro e w5 ⟨rfl, hs5⟩))
              all_goals first | (go_ret; exact ⟨rfl, hb4⟩) | (go_ret; exact ⟨rfl, hb4.trans (hs5.mono hb4.size)⟩)
            · go_wp2_with (first | (go_at_call 19; refine (C4.out _ _ _ (hR1.kept (bel2 (bel2 hs2 hs3) hs4))).mono ?_; rintro e w5 ⟨rfl, hs5⟩))
              all_goals first | (go_ret; exact ⟨rfl, hb4⟩) | (go_ret; exact ⟨rfl, hb4.trans (hs5.mono hb4.size)⟩)
            · go_wp2_with (first | (go_at_call 19; refine (C4.out _ _ _ (hR1.kept (bel2 (bel2 hs2 hs3) hs4))).mono ?_; rintro e w5 ⟨rfl, hs5⟩))
              all_goals first | (go_ret; exact ⟨rfl, hb4⟩) | (go_ret; exact ⟨rfl, hb4.trans (hs5.mono hb4.size)⟩)
            · go_wp2_with (first | (go_at_call 19; refine (C4.out _ _ _ (hR1.kept (bel2 (bel2 hs2 hs3) hs4))).mono ?_; rintro e w5 ⟨rfl, hs5⟩))
              all_goals first | (go_ret; exact ⟨rfl, hb4⟩) | (go_ret; exact ⟨rfl, hb4.trans (hs5.mono hb4.size)⟩)
            · go_wp2_with (first | (go_at_call 19; refine (C4.out _ _ _ (hR1.kept (bel2 (bel2 hs2 hs3) hs4))).mono ?_; rintro e w5 ⟨rfl, hs5⟩))
              all_goals first | (go_ret; exact ⟨rfl, hb4⟩) | (go_ret; exact ⟨rfl, hb4.trans (hs5.mono hb4.size)⟩)
          · have hko := HK.out hkb
            rw [hkb] at C4
            have hcl := ord_cases hko
            rcases hcl with ⟨f1, f2⟩ | ⟨f1, f2⟩ | rfl | rfl | rfl | rfl
            · go_wp2_with fail
              go_ret
              exact ⟨rfl, hb4⟩
            · go_wp2_with fail
              go_ret
              exact ⟨rfl, hb4⟩
            · go_wp2_with fail
              go_ret
              exact ⟨rfl, hb4⟩
            · go_wp2_with fail
              go_ret
              exact ⟨rfl, hb4⟩
            · go_wp2_with fail
              go_ret
              exact ⟨rfl, hb4⟩
            · go_wp2_with fail
              go_ret
              exact ⟨rfl, hb4⟩

set_option maxRecDepth 100000 in
theorem lifted (os : Os) (started : os.Started) (H : Type) (enc : TypeId × Value → H) :
    ReturnsInHanded {} Try.checked os 5 .any (Rows.fnOrderSpec.pre6 enc Try.prog Try.f5 Rows.fnOrderRow.domain false) (Rows.fnOrderSpec.post enc Try.prog Try.f5 false true false false) := by
  refine returnsInHanded_of_change (C := Try.checked) own started (by kernel_rfl) Try.func5
    (ChangeSpec.witness6 (enc := enc) (C := Try.checked) false ⟨#[], #[.slice none 0 0], []⟩ 8 (by kernel_rfl) (by kernel_rfl) (by kernel_rfl) (by kernel_rfl)) ?_
  intro W base args ds gs before hval0 hW hcnd _
  have hval : ∀ (j : Nat) t v, Try.f5.params[j]? = some t → args[j]? = some v → Value.okWide Try.prog W .any base t v := hval0
  have hW' := hW
  obtain ⟨p, q, hA0, hV, rfl, hfz, hnd⟩ := hW
  have hA : DataW.TrodAll enc Try.prog W 0 (fun _ => true) true Try.f5.params.toList args.toList ds p := hA0
  rw [Try.params5] at hA hval
  obtain ⟨v0, vs0, d0, ds0, p0, q0, hargs, rfl, rfl, h0, r0⟩ := trodAll_cons hA
  obtain ⟨rfl, rfl, rfl⟩ := trodAll_nil r0
  obtain rfl : args = #[v0] := by cases args; simp_all
  obtain ⟨rfl, rfl⟩ := trodVars_none hV
  obtain ⟨a0, len0, cap0, rfl⟩ := okWide_slice Try.underlying22 (hval 0 22 v0 rfl rfl)
  have k0 := h0
  have lt0 : ∀ x ∈ p0, x.block < W.heap.size := by obtain ⟨m, hm⟩ := k0; exact DataW.trod_lt m _ _ _ hm
  obtain ⟨z0, w0⟩ : ∃ zs, IsRow .u8 W a0 len0 cap0 zs := by
    obtain ⟨fuel, hf⟩ := h0
    rcases open_ints Try.underlying22 Try.underlying5 (by kernel_rfl) hf with ⟨hcs, _⟩ | ⟨x, l, c, zs, hcs, _, hl, hm, hz, _, hcell, hwz⟩
    · simp [Value.cells] at hcs
      obtain ⟨rfl, rfl, rfl⟩ := hcs
      exact ⟨[], .inl ⟨rfl, rfl, rfl, rfl⟩⟩
    · simp [Value.cells] at hcs
      obtain ⟨rfl, rfl, rfl⟩ := hcs
      exact ⟨zs, .inr ⟨_, rfl, hl, hm, by simpa using hz, hcell, hwz⟩⟩
  clear hA0 hval0
  refine (walk a0 len0 cap0 z0 W w0).mono fun e W' ⟨he, bel⟩ => ?_
  subst he
  exact ⟨_, rfl, _, _, _, [], _, [], hW', trodAll_mk1 (shut_bool Try.underlying4 _), (trodAll_cons_mk (Below.trod laidOut (by kernel_rfl) (of_decide_eq_true (by kernel_rfl)) k0 bel lt0) trodAll_mk0), rfl, bel.frame _, fun h => by cases h⟩

theorem closed : joinedFacts Try.checked.prog 5 Try.f5 Rows.fnOrderSpec Rows.fnOrderRow = true := by
  unfold joinedFacts
  rw [may, made, lifts]
  kernel_rfl

theorem over : Rows.fnOrderRow.holds Try.pinned (OpenSpec.ofChange Rows.fnOrderSpec) :=
  OpenClaim.holds_of_wide 5 Try.f5 rfl rfl rfl rfl rfl rfl rfl ⟨rfl, rfl, rfl, rfl, rfl⟩ rfl rfl rfl rfl rfl (by kernel_rfl) Try.func5 closed
    (of_decide_eq_true (by kernel_rfl)) (by unfold Func.isWrapper; first | (rw [if_pos (by decide +kernel)]; kernel_rfl) | (rw [if_neg (by decide +kernel)]; exact ⟨rfl, rfl⟩))
    (fun os started H enc _ => lifted os started H enc)

/-- The given statement. -/
theorem proved : Rows.FnOrderSaid := over
#print axioms proved

end Go.Proofs.Yteedbejlbjfkgaa.fnOrder
