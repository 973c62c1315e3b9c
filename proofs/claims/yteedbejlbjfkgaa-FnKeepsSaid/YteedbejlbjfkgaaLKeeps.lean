/- Proves the given statement on laws.FnKeeps: whatever the input, the law returns true and its input reads as it did. No conditions. -/
import Derived.Test.YteedbejlbjfkgaaFr
import Derived.Test.YteedbejlbjfkgaaWrd
import Derived.Test.YteedbejlbjfkgaaWDrawP
import Derived.Test.YteedbejlbjfkgaaWKp
import Derived.Test.YteedbejlbjfkgaaWOcI
import Derived.Test.YteedbejlbjfkgaaWOct
import Derived.Test.YteedbejlbjfkgaaWMisc
import Derived.Test.YteedbejlbjfkgaaWMark
set_option linter.unusedVariables false
namespace Go.Proofs.Yteedbejlbjfkgaa.fnKeeps
open Go.ChangeShapes Go.WideShapes Go.ChangeAt Go.RowKit
open Go.ChangeMaps (open_string shut_string)
open Res

theorem oct_lit : ∃ o, wi (mk [0, 5, 10, 15, 20] 5) = [((o : Nat) : Int)] ∧ octP o ∧ o &&& mk [0, 5, 10, 15, 20] 5 = mk [0, 5, 10, 15, 20] 5 := by
  have hok5 := (okTo_iff [0, 5, 10, 15, 20]).2 (by decide)
  exact wi_five (mk_lt hok5) (mk_wt hok5)
theorem octB_of {n : Nat} (h : octP n) : octB (n : Int) = true := by
  have := h.1
  unfold octB
  rw [inB_true (by omega) (by omega), Int.toNat_natCast, h.2.1, h.2.2]
  rfl
theorem oct_255 : octP 255 := ⟨by decide, by decide +kernel, by decide +kernel⟩
theorem octB_255 : octB 255 = true := octB_of oct_255
theorem oct_moved {p : List Int} (hk : keepB p = true) {o : Nat} (h : octP o) : octP (mvW p o) := by
  obtain ⟨hl, hp⟩ := permOk_ok (keep_perm hk)
  exact ⟨mvW_lt hp o, by rw [keep_iff hk h.1]; exact h.2.1, by rw [mvW_wt hp]; exact h.2.2⟩

set_option maxHeartbeats 1000000 in
theorem walk (a0 : Option Addr) (len0 cap0 : Nat) (z0 : List Int) (w : World) (w0 : IsRow .u8 w a0 len0 cap0 z0) :
    Calls Try.prog 6 #[.slice a0 len0 cap0] w fun e w' => e = .returned (.bool true) ∧ Below w.heap.size w w' := by
  obtain ⟨hc, hlen⟩ := w0.code
  clear w0
  generalize z0.take len0 = l at *
  subst hlen
  by_cases hbig : 1048576 < l.length
  · go_enter Try.func6, Try.ntmps6
    go_wp2
    go_ret
    exact ⟨rfl, Below.refl _ _⟩
  · have hl : (l.length : Int) ≤ 1048576 := by omega
    go_enter Try.func6, Try.ntmps6
    go_wp2_with fail
    refine (DrawPermKeeps_any _ _ l _ hc).mono ?_
    rintro e w1 ⟨v1, L, rfl, hO1, hL, hb1⟩
    obtain ⟨a1, c1, rfl, hR1, hl1, hc1⟩ := hO1.shape
    clear hO1
    have C1 := Lib.hid (fun a c w hr => implPermKeeps_any a c L w (by omega) hr)
    have C2 := Lib.hid (fun a c w hr => specPermKeeps_any a c L w (by omega) hr)
    cases hv : keepB L
    · rw [hv] at C1 C2
      clear hv
      go_wp2_with fail
      refine (C1.out _ _ _ hR1).mono ?_
      rintro e w2 ⟨rfl, hs2⟩
      have hb2 := hb1.trans (hs2.mono hb1.size)
      go_wp2_with fail
      refine (C2.out _ _ _ (hR1.kept hs2)).mono ?_
      rintro e w3 ⟨rfl, hs3⟩
      have hb3 := hb2.trans (hs3.mono hb2.size)
      go_wp2_with fail
      go_ret
      exact ⟨rfl, hb3⟩
    · rw [hv] at C1 C2
      have hp := keep_perm hv
      obtain ⟨hl24, hok⟩ := permOk_ok hp
      obtain ⟨o, ho, hoc, -⟩ := oct_lit
      have C3 : Hid (∀ w : World, Calls Try.prog 20 #[.slice (some ⟨w.heap.size, 0, none⟩) 5 5] (w.alloc (.cells #[.int .i64 0, .int .i64 5, .int .i64 10, .int .i64 15, .int .i64 20] 3)) fun e w' =>
          e = .returned (.tuple #[.int .i64 (o : Int), .bool true]) ∧ Below (w.alloc (.cells #[.int .i64 0, .int .i64 5, .int .i64 10, .int .i64 15, .int .i64 20] 3)).heap.size (w.alloc (.cells #[.int .i64 0, .int .i64 5, .int .i64 10, .int .i64 15, .int .i64 20] 3)) w') :=
        Lib.hid (fun w => implOctadThrough_ok _ 5 [0, 5, 10, 15, 20] _ (Owns.lit (B := 0) w [0, 5, 10, 15, 20] (Nat.zero_le _) (by decide)).reads.1 (by decide) rfl o ho)
      have h1 := oct_moved hv hoc
      have h2 := oct_moved hv oct_255
      have m1 := h1.1
      have m2 := h2.1
      have mo := hoc.1
      have hcl := code_lt (show 100 < 4096 by omega)
      have m3 := mvW_lt hok (code 100)
      have h3 : codeB (mvW L (code 100)) = true := by rw [keep_iff hv hcl]; exact code_in 100
      have C4 := Lib.hid (fun a c w hr => implPermWord_ok a c L ((o : Nat) : Int) w hr (by unfold pwOk; rw [hp, inB_true (by omega) (by omega)]; rfl))
      have C5 := Lib.hid (fun a c w hr => implPermWord_ok a c L 255 w hr (by unfold pwOk; rw [hp]; rfl))
      have C6 := Lib.hid (fun w => implCodeOf_ok 100 w (by omega) (by omega))
      have C7 := Lib.hid (fun a c w hr => implPermWord_ok a c L ((code 100 : Nat) : Int) w hr (by unfold pwOk; rw [hp, inB_true (by omega) (by omega)]; rfl))
      have C8 := Lib.hid (fun w => implOctadIn_any ((mvW L o : Nat) : Int) w)
      have C9 := Lib.hid (fun w => implOctadIn_any 255 w)
      have C10 := Lib.hid (fun w => implOctadIn_any ((mvW L 255 : Nat) : Int) w)
      have C11 := Lib.hid (fun w => implCodeIn_ok ((mvW L (code 100) : Nat) : Int) w (by omega) (by omega))
      rw [octB_of h1] at C8
      rw [octB_255] at C9
      rw [octB_of h2] at C10
      rw [Int.toNat_natCast] at C4 C7 C11
      rw [show (255 : Int).toNat = 255 from rfl] at C5
      rw [show (100 : Int).toNat = 100 from rfl] at C6
      rw [h3] at C11
      generalize mvW L (code 100) = y3 at *
      generalize code 100 = y4 at *
      generalize mvW L 255 = y2 at *
      generalize mvW L o = y1 at *
      clear hv hp hl24 hok ho hoc h1 h2 h3
      go_wp2_with fail
      refine (C1.out _ _ _ hR1).mono ?_
      rintro e w2 ⟨rfl, hs2⟩
      have hb2 := hb1.trans (hs2.mono hb1.size)
      go_wp2_with fail
      refine (C2.out _ _ _ (hR1.kept hs2)).mono ?_
      rintro e w3 ⟨rfl, hs3⟩
      have hb3 := hb2.trans (hs3.mono hb2.size)
      go_wp2_with fail
      refine (C3.out _).mono ?_
      rintro e w4 ⟨rfl, hs4⟩
      have hs4 := ((Below.refl w3.heap.size w3).alloc (Nat.le_refl _) (.cells #[.int .i64 0, .int .i64 5, .int .i64 10, .int .i64 15, .int .i64 20] 3)).trans (hs4.mono (by simp))
      have hb4 := hb3.trans (hs4.mono hb3.size)
      go_wp2_with fail
      refine (C4.out _ _ _ (hR1.kept (bel2 (bel2 hs2 hs3) hs4))).mono ?_
      rintro e w5 ⟨rfl, hs5⟩
      have hb5 := hb4.trans (hs5.mono hb4.size)
      go_wp2_with fail
      refine (C5.out _ _ _ (hR1.kept (bel2 (bel2 (bel2 hs2 hs3) hs4) hs5))).mono ?_
      rintro e w6 ⟨rfl, hs6⟩
      have hb6 := hb5.trans (hs6.mono hb5.size)
      go_wp2_with fail
      refine (C6.out _).mono ?_
      rintro e w7 ⟨rfl, hs7⟩
      have hb7 := hb6.trans (hs7.mono hb6.size)
      go_wp2_with fail
      refine (C7.out _ _ _ (hR1.kept (bel2 (bel2 (bel2 (bel2 (bel2 hs2 hs3) hs4) hs5) hs6) hs7))).mono ?_
      rintro e w8 ⟨rfl, hs8⟩
      have hb8 := hb7.trans (hs8.mono hb7.size)
      go_wp2_with fail
      refine (C8.out _).mono ?_
      rintro e w9 ⟨rfl, hs9⟩
      have hb9 := hb8.trans (hs9.mono hb8.size)
      go_wp2_with fail
      refine (C9.out _).mono ?_
      rintro e w10 ⟨rfl, hs10⟩
      have hb10 := hb9.trans (hs10.mono hb9.size)
      go_wp2_with fail
      refine (C10.out _).mono ?_
      rintro e w11 ⟨rfl, hs11⟩
      have hb11 := hb10.trans (hs11.mono hb10.size)
      go_wp2_with fail
      refine (C11.out _).mono ?_
      rintro e w12 ⟨rfl, hs12⟩
      have hb12 := hb11.trans (hs12.mono hb11.size)
      go_wp2_with fail
      go_ret
      exact ⟨rfl, hb12⟩

set_option maxRecDepth 100000 in
theorem lifted (os : Os) (started : os.Started) (H : Type) (enc : TypeId × Value → H) :
    ReturnsInHanded {} Try.checked os 6 .any (Rows.fnKeepsSpec.pre6 enc Try.prog Try.f6 Rows.fnKeepsRow.domain false) (Rows.fnKeepsSpec.post enc Try.prog Try.f6 false true false false) := by
  refine returnsInHanded_of_change (C := Try.checked) own started (by kernel_rfl) Try.func6
    (ChangeSpec.witness6 (enc := enc) (C := Try.checked) false ⟨#[], #[.slice none 0 0], []⟩ 8 (by kernel_rfl) (by kernel_rfl) (by kernel_rfl) (by kernel_rfl)) ?_
  intro W base args ds gs before hval0 hW hcnd _
  have hval : ∀ (j : Nat) t v, Try.f6.params[j]? = some t → args[j]? = some v → Value.okWide Try.prog W .any base t v := hval0
  have hW' := hW
  obtain ⟨p, q, hA0, hV, rfl, hfz, hnd⟩ := hW
  have hA : DataW.TrodAll enc Try.prog W 0 (fun _ => true) true Try.f6.params.toList args.toList ds p := hA0
  rw [Try.params6] at hA hval
  obtain ⟨v0, vs0, d0, ds0, p0, q0, hargs, rfl, rfl, h0, r0⟩ := trodAll_cons hA
  obtain ⟨rfl, rfl, rfl⟩ := trodAll_nil r0
  obtain rfl : args = #[v0] := by cases args; simp_all
  obtain ⟨rfl, rfl⟩ := trodVars_none hV
  obtain ⟨a0, len0, cap0, rfl⟩ := okWide_slice Try.underlying22 (hval 0 22 v0 rfl rfl)
  have k0 := h0
  have lt0 : ∀ x ∈ p0, x.block < W.heap.size := by obtain ⟨m, hm⟩ := k0; exact DataW.trod_lt m _ _ _ hm
  obtain ⟨z0, w0⟩ : ∃ zs, IsRow .u8 W a0 len0 cap0 zs := by
    obtain ⟨fuel, hf⟩ := h0
    rcases open_ints Try.underlying22 Try.underlying5 (by kernel_rfl) hf with ⟨hcs, _⟩ | ⟨x, l, c, zs, hcs, _, hl, hm, hz, _, hcell, hwz⟩
    · simp [Value.cells] at hcs
      obtain ⟨rfl, rfl, rfl⟩ := hcs
      exact ⟨[], .inl ⟨rfl, rfl, rfl, rfl⟩⟩
    · simp [Value.cells] at hcs
      obtain ⟨rfl, rfl, rfl⟩ := hcs
      exact ⟨zs, .inr ⟨_, rfl, hl, hm, by simpa using hz, hcell, hwz⟩⟩
  clear hA0 hval0
  refine (walk a0 len0 cap0 z0 W w0).mono fun e W' ⟨he, bel⟩ => ?_
  subst he
  exact ⟨_, rfl, _, _, _, [], _, [], hW', trodAll_mk1 (shut_bool Try.underlying4 _), (trodAll_cons_mk (Below.trod laidOut (by kernel_rfl) (of_decide_eq_true (by kernel_rfl)) k0 bel lt0) trodAll_mk0), rfl, bel.frame _, fun h => by cases h⟩

theorem closed : joinedFacts Try.checked.prog 6 Try.f6 Rows.fnKeepsSpec Rows.fnKeepsRow = true := by
  unfold joinedFacts
  rw [may, made, lifts]
  kernel_rfl

theorem over : Rows.fnKeepsRow.holds Try.pinned (OpenSpec.ofChange Rows.fnKeepsSpec) :=
  OpenClaim.holds_of_wide 6 Try.f6 rfl rfl rfl rfl rfl rfl rfl ⟨rfl, rfl, rfl, rfl, rfl⟩ rfl rfl rfl rfl rfl (by kernel_rfl) Try.func6 closed
    (of_decide_eq_true (by kernel_rfl)) (by unfold Func.isWrapper; first | (rw [if_pos (by decide +kernel)]; kernel_rfl) | (rw [if_neg (by decide +kernel)]; exact ⟨rfl, rfl⟩))
    (fun os started H enc _ => lifted os started H enc)

/-- The given statement. -/
theorem proved : Rows.FnKeepsSaid := over
#print axioms proved

end Go.Proofs.Yteedbejlbjfkgaa.fnKeeps
