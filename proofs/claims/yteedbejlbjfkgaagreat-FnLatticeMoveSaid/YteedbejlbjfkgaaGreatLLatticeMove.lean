/- Proves the given statement on laws.FnLatticeMove: whatever the input, the law returns true and its input reads as it did. No conditions. -/
import Derived.Test.YteedbejlbjfkgaaGreatFr
import Derived.Test.YteedbejlbjfkgaaGreatWrd
import Derived.Test.YteedbejlbjfkgaaGreatWDrawM
import Derived.Test.YteedbejlbjfkgaaGreatWMv
import Derived.Test.YteedbejlbjfkgaaGreatWShape
import Derived.Test.YteedbejlbjfkgaaGreatWKeep
import Derived.Test.YteedbejlbjfkgaaGreatWPt
import Derived.Test.YteedbejlbjfkgaaGreatMvLat
import Derived.Test.YteedbejlbjfkgaaGreatWSame
import Derived.Test.YteedbejlbjfkgaaGreatWMark
set_option linter.unusedVariables false
namespace Go.Proofs.YteedbejlbjfkgaaGreat.fnLatticeMove
open Go.ChangeShapes Go.WideShapes Go.ChangeAt Go.RowKit
open Go.ChangeMaps (open_string shut_string)
open Res

set_option maxHeartbeats 2000000 in
theorem walk (a0 : Option Addr) (len0 cap0 : Nat) (z0 : List Int) (w : World) (w0 : IsRow .u8 w a0 len0 cap0 z0) :
    Calls Tryz.prog 3 #[.slice a0 len0 cap0] w fun e w' => e = .returned (.bool true) ∧ Below w.heap.size w w' := by
  obtain ⟨hc, hlen⟩ := w0.code
  clear w0
  generalize z0.take len0 = l at *
  subst hlen
  by_cases hbig : 1048576 < l.length
  · go_enter Tryz.func3, Tryz.ntmps3
    go_wp2
    go_ret
    exact ⟨rfl, Below.refl _ _⟩
  · have hl : (l.length : Int) ≤ 1048576 := by omega
    go_enter Tryz.func3, Tryz.ntmps3
    go_wp2_with fail
    refine (DrawLatticeMove_any _ _ l _ hc).mono ?_
    rintro e w1 ⟨v1, L, v2, M, rfl, hO1, hL, hO2, hM, hb1⟩
    obtain ⟨a1, c1, rfl, hRa1, hl1, hc1⟩ := hO1.shape
    obtain ⟨a2, c2, rfl, hRb1, hl2, hc2⟩ := hO2.shape
    clear hO1 hO2
    cases hv : moveOk L M
    · have C1 := Lib.hid (fun a b c d w hr hs => implLatticeMove_no a b c d L M w (by omega) (by omega) hr hs hv)
      have C2 := Lib.hid (fun a b c d w hr hs => specLatticeMove_no a b c d L M w (by omega) (by omega) hr hs hv)
      clear hv
      go_wp2_with fail
      refine (C1.out _ _ _ _ _ hRa1 hRb1).mono ?_
      rintro e w2 ⟨v2, rfl, hO2, hs2⟩
      obtain ⟨a2, c2, rfl, hR2, hl2, hc2⟩ := hO2.shape
      have hb2 := hb1.trans (hs2.mono hb1.size)
      go_wp2_with fail
      refine (C2.out _ _ _ _ _ (hRa1.kept hs2) (hRb1.kept hs2)).mono ?_
      rintro e w3 ⟨v3, rfl, hO3, hs3⟩
      obtain ⟨a3, c3, rfl, hR3, hl3, hc3⟩ := hO3.shape
      have hb3 := hb2.trans (hs3.mono hb2.size)
      go_wp2_with fail
      refine (sameInts_same _ _ _ _ [] _ (by simp) (hR2.kept hs3) hR3).mono ?_
      rintro e w4 ⟨rfl, hs4⟩
      have hb4 := hb3.trans (hs4.mono hb3.size)
      go_wp2_with fail
      refine (sameInts_same _ _ _ _ [] _ (by simp) (hR2.kept (bel2 hs3 hs4)) (hR3.kept hs4)).mono ?_
      rintro e w5 ⟨rfl, hs5⟩
      have hb5 := hb4.trans (hs5.mono hb4.size)
      go_wp2_with fail
      go_ret
      exact ⟨rfl, hb5⟩
    · have hvv := hv
      unfold moveOk at hvv
      rw [Bool.and_eq_true] at hvv
      obtain ⟨h1, h2⟩ := hvv
      obtain ⟨l2, o2⟩ := permOk_ok h2
      have h3 := tnL_perm h2
      have h4 := vec_move l2 o2 h1
      have C1 := Lib.hid (fun a b c d w hr hs => implLatticeMove_ok a b c d L M w hr hs hv)
      have C2 := Lib.hid (fun a b c d w hr hs => specLatticeMove_ok a b c d L M w hr hs hv)
      have C3 := Lib.hid (fun a c w hr => implPermTurned_ok a c M w hr h2)
      have C4 := Lib.hid (fun a b c d w hr hs => implLatticeMove_ok a b c d (moveV L M) (tnL M) w hr hs (by unfold moveOk; rw [h4, h3]; rfl))
      rw [moveV_back l2 o2 (vecOk_length' h1)] at C4
      have C5 := Lib.hid (fun a c w hr => implLatticeShape_ok a c (moveV L M) w hr h4)
      rw [shape_move l2 o2] at C5
      have C6 := Lib.hid (fun a c w hr => implLatticeShape_ok a c L w hr h1)
      have C7 := Lib.hid (fun a c w hr => implPermKeeps_any a c M w (by omega) hr)
      have C8 : Hid (keepB M = true → ∀ a c w, Reads .i64 w a (moveV L M) → Calls Tryz.prog 11 #[.slice a (moveV L M).length c] w fun e w' => e = .returned (.bool (latOk L)) ∧ Below w.heap.size w w') := Lib.hid (fun hk => (latIn_c (moveV L M) _ (Nat.le_of_eq (moveV_length _ _)) (lat_move hk h1)))
      have C9 := Lib.hid (latIn_c L _ hL rfl)
      have hS : (shapeV L).length ≤ 24 := Nat.le_of_eq (shapeV_length L)
      have hT : (tnL M).length ≤ 24 := Nat.le_of_eq (tnTo_length _ _)
      have hV : (moveV L M).length ≤ 24 := Nat.le_of_eq (moveV_length _ _)
      generalize moveV L M = V at *
      generalize tnL M = T at *
      generalize shapeV L = S at *
      generalize latOk L = lt at *
      clear hv h1 h2 h3 h4 l2 o2
      go_wp2_with fail
      refine (C1.out _ _ _ _ _ hRa1 hRb1).mono ?_
      rintro e w2 ⟨v2, rfl, hO2, hs2⟩
      obtain ⟨a2, c2, rfl, hR2, hl2, hc2⟩ := hO2.shape
      have hb2 := hb1.trans (hs2.mono hb1.size)
      go_wp2_with fail
      refine (C2.out _ _ _ _ _ (hRa1.kept hs2) (hRb1.kept hs2)).mono ?_
      rintro e w3 ⟨v3, rfl, hO3, hs3⟩
      obtain ⟨a3, c3, rfl, hR3, hl3, hc3⟩ := hO3.shape
      have hb3 := hb2.trans (hs3.mono hb2.size)
      go_wp2_with fail
      refine (sameInts_same _ _ _ _ V _ (by omega) (hR2.kept hs3) hR3).mono ?_
      rintro e w4 ⟨rfl, hs4⟩
      have hb4 := hb3.trans (hs4.mono hb3.size)
      go_wp2_with fail
      refine (C3.out _ _ _ (hRb1.kept (bel2 (bel2 hs2 hs3) hs4))).mono ?_
      rintro e w5 ⟨v5, rfl, hO5, hs5⟩
      obtain ⟨a5, c5, rfl, hR5, hl5, hc5⟩ := hO5.shape
      have hb5 := hb4.trans (hs5.mono hb4.size)
      go_wp2_with fail
      refine (C4.out _ _ _ _ _ (hR2.kept (bel2 (bel2 hs3 hs4) hs5)) hR5).mono ?_
      rintro e w6 ⟨v6, rfl, hO6, hs6⟩
      obtain ⟨a6, c6, rfl, hR6, hl6, hc6⟩ := hO6.shape
      have hb6 := hb5.trans (hs6.mono hb5.size)
      go_wp2_with fail
      refine (C5.out _ _ _ (hR2.kept (bel2 (bel2 (bel2 hs3 hs4) hs5) hs6))).mono ?_
      rintro e w7 ⟨v7, rfl, hO7, hs7⟩
      obtain ⟨a7, c7, rfl, hR7, hl7, hc7⟩ := hO7.shape
      have hb7 := hb6.trans (hs7.mono hb6.size)
      go_wp2_with fail
      refine (C6.out _ _ _ (hRa1.kept (bel2 (bel2 (bel2 (bel2 (bel2 hs2 hs3) hs4) hs5) hs6) hs7))).mono ?_
      rintro e w8 ⟨v8, rfl, hO8, hs8⟩
      obtain ⟨a8, c8, rfl, hR8, hl8, hc8⟩ := hO8.shape
      have hb8 := hb7.trans (hs8.mono hb7.size)
      go_wp2_with fail
      refine (sameInts_same _ _ _ _ L _ (by omega) (hR6.kept (bel2 hs7 hs8)) (hRa1.kept (bel2 (bel2 (bel2 (bel2 (bel2 (bel2 hs2 hs3) hs4) hs5) hs6) hs7) hs8))).mono ?_
      rintro e w9 ⟨rfl, hs9⟩
      have hb9 := hb8.trans (hs9.mono hb8.size)
      go_wp2_with fail
      refine (sameInts_same _ _ _ _ S _ (by omega) (hR7.kept (bel2 hs8 hs9)) (hR8.kept hs9)).mono ?_
      rintro e w10 ⟨rfl, hs10⟩
      have hb10 := hb9.trans (hs10.mono hb9.size)
      go_wp2_with fail
      refine (C7.out _ _ _ (hRb1.kept (bel2 (bel2 (bel2 (bel2 (bel2 (bel2 (bel2 (bel2 hs2 hs3) hs4) hs5) hs6) hs7) hs8) hs9) hs10))).mono ?_
      rintro e w11 ⟨rfl, hs11⟩
      have hb11 := hb10.trans (hs11.mono hb10.size)
      cases hK : keepB M
      · go_wp2_with fail
        go_ret
        exact ⟨rfl, hb11⟩
      · have C10 := Lib.hid (C8.out hK)
        clear C8 hK
        go_wp2_with fail
        refine (C10.out _ _ _ (hR2.kept (bel2 (bel2 (bel2 (bel2 (bel2 (bel2 (bel2 (bel2 hs3 hs4) hs5) hs6) hs7) hs8) hs9) hs10) hs11))).mono ?_
        rintro e w12 ⟨rfl, hs12⟩
        have hb12 := hb11.trans (hs12.mono hb11.size)
        go_wp2_with fail
        refine (C9.out _ _ _ (hRa1.kept (bel2 (bel2 (bel2 (bel2 (bel2 (bel2 (bel2 (bel2 (bel2 (bel2 hs2 hs3) hs4) hs5) hs6) hs7) hs8) hs9) hs10) hs11) hs12))).mono ?_
        rintro e w13 ⟨rfl, hs13⟩
        have hb13 := hb12.trans (hs13.mono hb12.size)
        have hll : (lt == lt) = true := beq_self_eq_true _
        go_wp2_with fail
        go_ret
        exact ⟨rfl, hb13⟩

set_option maxRecDepth 100000 in
theorem lifted (os : Os) (started : os.Started) (H : Type) (enc : TypeId × Value → H) :
    ReturnsInHanded {} Tryz.checked os 3 .any (Rows.fnLatticeMoveSpec.pre6 enc Tryz.prog Tryz.f3 Rows.fnLatticeMoveRow.domain false) (Rows.fnLatticeMoveSpec.post enc Tryz.prog Tryz.f3 false true false false) := by
  refine returnsInHanded_of_change (C := Tryz.checked) own started (by kernel_rfl) Tryz.func3
    (ChangeSpec.witness6 (enc := enc) (C := Tryz.checked) false ⟨#[], #[.slice none 0 0], []⟩ 8 (by kernel_rfl) (by kernel_rfl) (by kernel_rfl) (by kernel_rfl)) ?_
  intro W base args ds gs before hval0 hW hcnd _
  have hval : ∀ (j : Nat) t v, Tryz.f3.params[j]? = some t → args[j]? = some v → Value.okWide Tryz.prog W .any base t v := hval0
  have hW' := hW
  obtain ⟨p, q, hA0, hV, rfl, hfz, hnd⟩ := hW
  have hA : DataW.TrodAll enc Tryz.prog W 0 (fun _ => true) true Tryz.f3.params.toList args.toList ds p := hA0
  rw [Tryz.params3] at hA hval
  obtain ⟨v0, vs0, d0, ds0, p0, q0, hargs, rfl, rfl, h0, r0⟩ := trodAll_cons hA
  obtain ⟨rfl, rfl, rfl⟩ := trodAll_nil r0
  obtain rfl : args = #[v0] := by cases args; simp_all
  obtain ⟨rfl, rfl⟩ := trodVars_none hV
  obtain ⟨a0, len0, cap0, rfl⟩ := okWide_slice Tryz.underlying22 (hval 0 22 v0 rfl rfl)
  have k0 := h0
  have lt0 : ∀ x ∈ p0, x.block < W.heap.size := by obtain ⟨m, hm⟩ := k0; exact DataW.trod_lt m _ _ _ hm
  obtain ⟨z0, w0⟩ : ∃ zs, IsRow .u8 W a0 len0 cap0 zs := by
    obtain ⟨fuel, hf⟩ := h0
    rcases open_ints Tryz.underlying22 Tryz.underlying5 (by kernel_rfl) hf with ⟨hcs, _⟩ | ⟨x, l, c, zs, hcs, _, hl, hm, hz, _, hcell, hwz⟩
    · simp [Value.cells] at hcs
      obtain ⟨rfl, rfl, rfl⟩ := hcs
      exact ⟨[], .inl ⟨rfl, rfl, rfl, rfl⟩⟩
    · simp [Value.cells] at hcs
      obtain ⟨rfl, rfl, rfl⟩ := hcs
      exact ⟨zs, .inr ⟨_, rfl, hl, hm, by simpa using hz, hcell, hwz⟩⟩
  clear hA0 hval0
  refine (walk a0 len0 cap0 z0 W w0).mono fun e W' ⟨he, bel⟩ => ?_
  subst he
  exact ⟨_, rfl, _, _, _, [], _, [], hW', trodAll_mk1 (shut_bool Tryz.underlying4 _), (trodAll_cons_mk (Below.trod laidOut (by kernel_rfl) (of_decide_eq_true (by kernel_rfl)) k0 bel lt0) trodAll_mk0), rfl, bel.frame _, fun h => by cases h⟩

theorem closed : joinedFacts Tryz.checked.prog 3 Tryz.f3 Rows.fnLatticeMoveSpec Rows.fnLatticeMoveRow = true := by
  unfold joinedFacts
  rw [may, made, lifts]
  kernel_rfl

theorem over : Rows.fnLatticeMoveRow.holds Tryz.pinned (OpenSpec.ofChange Rows.fnLatticeMoveSpec) :=
  OpenClaim.holds_of_wide 3 Tryz.f3 rfl rfl rfl rfl rfl rfl rfl ⟨rfl, rfl, rfl, rfl, rfl⟩ rfl rfl rfl rfl rfl (by kernel_rfl) Tryz.func3 closed
    (of_decide_eq_true (by kernel_rfl)) (by unfold Func.isWrapper; first | (rw [if_pos (by decide +kernel)]; kernel_rfl) | (rw [if_neg (by decide +kernel)]; exact ⟨rfl, rfl⟩))
    (fun os started H enc _ => lifted os started H enc)

/-- The given statement. -/
theorem proved : Rows.FnLatticeMoveSaid := over
#print axioms proved

end Go.Proofs.YteedbejlbjfkgaaGreat.fnLatticeMove
