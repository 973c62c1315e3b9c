/- Proves the given statement on laws.FnFixed: whatever the input, the law returns true and its input reads as it did. No conditions. -/
import Derived.Test.YteedbejlbjfkgaaFr
import Derived.Test.YteedbejlbjfkgaaWrd
import Derived.Test.YteedbejlbjfkgaaWDrawP
import Derived.Test.YteedbejlbjfkgaaWPt
import Derived.Test.YteedbejlbjfkgaaWKp
import Derived.Test.YteedbejlbjfkgaaWOcI
import Derived.Test.YteedbejlbjfkgaaWMisc
import Derived.Test.YteedbejlbjfkgaaWSort
import Derived.Test.YteedbejlbjfkgaaWMark
import Derived.Test.YteedbejlbjfkgaaM24
set_option linter.unusedVariables false
namespace Go.Proofs.Yteedbejlbjfkgaa.fnFixed
open Go.ChangeShapes Go.WideShapes Go.ChangeAt Go.RowKit
open Go.ChangeMaps (open_string shut_string)
open Res

theorem fx_get {L : List Int} {i : Nat} (h : (fxW L).testBit i = true) : goes L i = i := by
  unfold fxW at h
  rw [fxTo_bit, Bool.and_eq_true, decide_eq_true_eq, decide_eq_true_eq] at h
  exact h.2
theorem placesTo_sorted (w k : Nat) : (placesTo w k).Pairwise (· < ·) := by
  induction k with
  | zero => exact List.Pairwise.nil
  | succ k ih =>
    cases h : w.testBit k
    · rw [placesTo_miss h]; exact ih
    · rw [placesTo_hit h, List.pairwise_append]
      refine ⟨ih, List.pairwise_singleton _ _, fun a ha b hb => ?_⟩
      rw [List.mem_singleton] at hb
      subst hb
      exact (placesTo_mem.1 ha).1
theorem places_five (w : Nat) (h5 : 5 ≤ (places w).length) : diff ((ints (places w)).take 5) = true ∧ ((ints (places w)).take 5).length = 5 := by
  have hl : ((ints (places w)).take 5).length = 5 := by rw [List.length_take, ints_length]; omega
  refine ⟨?_, hl⟩
  unfold diff
  rw [Bool.and_eq_true, List.all_eq_true, decide_eq_true_eq]
  constructor
  · intro x hx
    obtain ⟨i, hi, rfl⟩ := List.mem_map.1 (List.mem_of_mem_take hx)
    have := (places_mem.1 hi).1
    exact inB_true (by simp) (by simp; omega)
  · refine List.Nodup.sublist (List.take_sublist _ _) ?_
    unfold ints
    rw [List.nodup_iff_pairwise_ne, List.pairwise_map]
    refine (placesTo_sorted w 24).imp fun {a b} h e => ?_
    have : (a : Int) = (b : Int) := e
    omega
/-- The octad through five fixed places is moved to itself. -/
theorem five_fixed {L : List Int} (hk : keepB L = true) (h5 : 5 ≤ (places (fxW L)).length) :
    ∃ o, o < 16777216 ∧ wi (mk ((ints (places (fxW L))).take 5) 5) = [((o : Nat) : Int)] ∧ mvW L o = o := by
  obtain ⟨hd, hl⟩ := places_five _ h5
  obtain ⟨l24, ok⟩ := permOk_ok (keep_perm hk)
  have hok := (okTo_iff _).2 hd
  rw [hl] at hok
  have hm := mk_lt hok
  have hw := mk_wt hok
  obtain ⟨o, h1, h2, h3⟩ := wi_five hm hw
  refine ⟨o, h2.1, h1, oct_fixed hk h2 hw h3 (mvW_fix ok hm fun i hi hb => ?_)⟩
  obtain ⟨j, hj, e⟩ := (mk_bit _ 5 i).1 hb
  have hx : ((ints (places (fxW L))).take 5).getD j 0 ∈ (ints (places (fxW L))).take 5 := by rw [getD_get (show j < ((ints (places (fxW L))).take 5).length by omega)]; exact List.getElem_mem _
  obtain ⟨q, hq, e2⟩ := List.mem_map.1 (List.mem_of_mem_take hx)
  have hqi : q = i := by
    rw [← e2] at e
    simpa using e
  subst hqi
  exact fx_get (places_mem.1 hq).2

set_option maxHeartbeats 1000000 in
theorem walk (a0 : Option Addr) (len0 cap0 : Nat) (z0 : List Int) (w : World) (w0 : IsRow .u8 w a0 len0 cap0 z0) :
    Calls Try.prog 4 #[.slice a0 len0 cap0] w fun e w' => e = .returned (.bool true) ∧ Below w.heap.size w w' := by
  obtain ⟨hc, hlen⟩ := w0.code
  clear w0
  generalize z0.take len0 = l at *
  subst hlen
  by_cases hbig : 1048576 < l.length
  · go_enter Try.func4, Try.ntmps4
    go_wp2
    go_ret
    exact ⟨rfl, Below.refl _ _⟩
  · have hl : (l.length : Int) ≤ 1048576 := by omega
    go_enter Try.func4, Try.ntmps4
    go_wp2_with fail
    refine (DrawPermFixed_any _ _ l _ hc).mono ?_
    rintro e w1 ⟨v1, L, rfl, hO1, hL, hb1⟩
    obtain ⟨a1, c1, rfl, hR1, hl1, hc1⟩ := hO1.shape
    clear hO1
    cases hv : permOk L
    · have C1 := Lib.hid (fun a c w hr => implPermFixed_no a c L w (by omega) hr hv)
      have C2 := Lib.hid (fun a c w hr => specPermFixed_no a c L w (by omega) hr hv)
      clear hv
      go_wp2_with fail
      refine (C1.out _ _ _ hR1).mono ?_
      rintro e w' ⟨rfl, rfl⟩
      go_wp2_with fail
      refine (C2.out _ _ _ hR1).mono ?_
      rintro e w' ⟨rfl, rfl⟩
      go_wp2_with fail
      go_ret
      exact ⟨rfl, hb1⟩
    · obtain ⟨l24, ok⟩ := permOk_ok hv
      have C1 := Lib.hid (fun a c w hr => implPermFixed_ok a c L w hr hv)
      have C2 := Lib.hid (fun a c w hr => specPermFixed_ok a c L w hr hv)
      have hf : fxW L < 16777216 := fxTo_lt L 24
      have hfx : mvW L (fxW L) = fxW L := mvW_fix ok hf fun i hi hb => (fx_get hb)
      have C3 := Lib.hid (fun a c w hr => implPermWord_ok a c L ((fxW L : Nat) : Int) w hr (by unfold pwOk; rw [hv, inB_true (by omega) (by omega)]; rfl))
      rw [Int.toNat_natCast, hfx] at C3
      have C4 := Lib.hid (fun w => implWordPlaces_ok ((fxW L : Nat) : Int) w (by omega) (by omega))
      rw [Int.toNat_natCast] at C4
      have C5 := Lib.hid (fun a c w hr => implPermKeeps_any a c L w (by omega) hr)
      have enn : (((fxW L : Nat) : Int) != ((fxW L : Nat) : Int)) = false := by simp
      have hil := ints_length (places (fxW L))
      have HF : Hid (5 ≤ (places (fxW L)).length → keepB L = true → ∃ o, o < 16777216 ∧ wi (mk ((ints (places (fxW L))).take 5) 5) = [((o : Nat) : Int)] ∧ mvW L o = o) := Lib.hid (fun h5 hk => five_fixed hk h5)
      have HT : Hid (5 ≤ (places (fxW L)).length → diff ((ints (places (fxW L))).take 5) = true ∧ ((ints (places (fxW L))).take 5).length = 5) := Lib.hid (fun h5 => places_five _ h5)
      have HV := Lib.hid hv
      clear hfx ok l24 hv
      generalize ints (places (fxW L)) = P at *
      generalize (places (fxW L)).length = N at *
      generalize fxW L = f at *
      subst hil
      go_wp2_with fail
      refine (C1.out _ _ _ hR1).mono ?_
      rintro e w' ⟨rfl, rfl⟩
      go_wp2_with fail
      refine (C2.out _ _ _ hR1).mono ?_
      rintro e w' ⟨rfl, rfl⟩
      go_wp2_with fail
      refine (C3.out _ _ _ hR1).mono ?_
      rintro e w2 ⟨rfl, hs2⟩
      have hb2 := hb1.trans (hs2.mono hb1.size)
      go_wp2_with fail
      refine (C4.out _).mono ?_
      rintro e w3 ⟨v3, rfl, hO3, hs3⟩
      obtain ⟨a3, c3, rfl, hR3, hl3, hc3⟩ := hO3.shape
      have hb3 := hb2.trans (hs3.mono hb2.size)
      by_cases h5 : P.length < 5
      · have h5i : (P.length : Int) < 5 := by omega
        go_wp2_with fail
        go_ret
        exact ⟨rfl, hb3⟩
      · have h5i : ¬ (P.length : Int) < 5 := by omega
        obtain ⟨t1, t2⟩ := HT.out (by omega)
        have hR5 := hR3.take 5
        go_wp2_with fail
        refine (C5.out _ _ _ (hR1.kept (bel2 hs2 hs3))).mono ?_
        rintro e w4 ⟨rfl, hs4⟩
        have hb4 := hb3.trans (hs4.mono hb3.size)
        cases hk : keepB L
        · go_wp2_with fail
          go_ret
          exact ⟨rfl, hb4⟩
        · obtain ⟨o, ho, ho2, ho3⟩ := HF.out (by omega) hk
          have C6 := Lib.hid (fun a c w hr => implOctadThrough_ok a c (P.take 5) w hr t1 t2 o ho2)
          rw [t2] at C6
          have C7 := Lib.hid (fun a c w hr => implPermWord_ok a c L ((o : Nat) : Int) w hr (by unfold pwOk; rw [HV.out, inB_true (by omega) (by omega)]; rfl))
          rw [Int.toNat_natCast, ho3] at C7
          clear ho2 ho3 hk HF HT t1 t2 HV
          generalize P.take 5 = P5 at *
          go_wp2_with fail
          refine (C6.out _ _ _ (hR5.kept hs4)).mono ?_
          rintro e w5 ⟨rfl, hs5⟩
          have hb5 := hb4.trans (hs5.mono hb4.size)
          go_wp2_with fail
          refine (C7.out _ _ _ (hR1.kept (bel2 (bel2 (bel2 hs2 hs3) hs4) hs5))).mono ?_
          rintro e w6 ⟨rfl, hs6⟩
          have hb6 := hb5.trans (hs6.mono hb5.size)
          go_wp2_with fail
          go_ret
          refine ⟨?_, hb6⟩
          first | rfl | simp

set_option maxRecDepth 100000 in
theorem lifted (os : Os) (started : os.Started) (H : Type) (enc : TypeId × Value → H) :
    ReturnsInHanded {} Try.checked os 4 .any (Rows.fnFixedSpec.pre6 enc Try.prog Try.f4 Rows.fnFixedRow.domain false) (Rows.fnFixedSpec.post enc Try.prog Try.f4 false true false false) := by
  refine returnsInHanded_of_change (C := Try.checked) own started (by kernel_rfl) Try.func4
    (ChangeSpec.witness6 (enc := enc) (C := Try.checked) false ⟨#[], #[.slice none 0 0], []⟩ 8 (by kernel_rfl) (by kernel_rfl) (by kernel_rfl) (by kernel_rfl)) ?_
  intro W base args ds gs before hval0 hW hcnd _
  have hval : ∀ (j : Nat) t v, Try.f4.params[j]? = some t → args[j]? = some v → Value.okWide Try.prog W .any base t v := hval0
  have hW' := hW
  obtain ⟨p, q, hA0, hV, rfl, hfz, hnd⟩ := hW
  have hA : DataW.TrodAll enc Try.prog W 0 (fun _ => true) true Try.f4.params.toList args.toList ds p := hA0
  rw [Try.params4] at hA hval
  obtain ⟨v0, vs0, d0, ds0, p0, q0, hargs, rfl, rfl, h0, r0⟩ := trodAll_cons hA
  obtain ⟨rfl, rfl, rfl⟩ := trodAll_nil r0
  obtain rfl : args = #[v0] := by cases args; simp_all
  obtain ⟨rfl, rfl⟩ := trodVars_none hV
  obtain ⟨a0, len0, cap0, rfl⟩ := okWide_slice Try.underlying22 (hval 0 22 v0 rfl rfl)
  have k0 := h0
  have lt0 : ∀ x ∈ p0, x.block < W.heap.size := by obtain ⟨m, hm⟩ := k0; exact DataW.trod_lt m _ _ _ hm
  obtain ⟨z0, w0⟩ : ∃ zs, IsRow .u8 W a0 len0 cap0 zs := by
    obtain ⟨fuel, hf⟩ := h0
    rcases open_ints Try.underlying22 Try.underlying5 (by kernel_rfl) hf with ⟨hcs, _⟩ | ⟨x, l, c, zs, hcs, _, hl, hm, hz, _, hcell, hwz⟩
    · simp [Value.cells] at hcs
      obtain ⟨rfl, rfl, rfl⟩ := hcs
      exact ⟨[], .inl ⟨rfl, rfl, rfl, rfl⟩⟩
    · simp [Value.cells] at hcs
      obtain ⟨rfl, rfl, rfl⟩ := hcs
      exact ⟨zs, .inr ⟨_, rfl, hl, hm, by simpa using hz, hcell, hwz⟩⟩
  clear hA0 hval0
  refine (walk a0 len0 cap0 z0 W w0).mono fun e W' ⟨he, bel⟩ => ?_
  subst he
  exact ⟨_, rfl, _, _, _, [], _, [], hW', trodAll_mk1 (shut_bool Try.underlying4 _), (trodAll_cons_mk (Below.trod laidOut (by kernel_rfl) (of_decide_eq_true (by kernel_rfl)) k0 bel lt0) trodAll_mk0), rfl, bel.frame _, fun h => by cases h⟩

theorem closed : joinedFacts Try.checked.prog 4 Try.f4 Rows.fnFixedSpec Rows.fnFixedRow = true := by
  unfold joinedFacts
  rw [may, made, lifts]
  kernel_rfl

theorem over : Rows.fnFixedRow.holds Try.pinned (OpenSpec.ofChange Rows.fnFixedSpec) :=
  OpenClaim.holds_of_wide 4 Try.f4 rfl rfl rfl rfl rfl rfl rfl ⟨rfl, rfl, rfl, rfl, rfl⟩ rfl rfl rfl rfl rfl (by kernel_rfl) Try.func4 closed
    (of_decide_eq_true (by kernel_rfl)) (by unfold Func.isWrapper; first | (rw [if_pos (by decide +kernel)]; kernel_rfl) | (rw [if_neg (by decide +kernel)]; exact ⟨rfl, rfl⟩))
    (fun os started H enc _ => lifted os started H enc)

/-- The given statement. -/
theorem proved : Rows.FnFixedSaid := over
#print axioms proved

end Go.Proofs.Yteedbejlbjfkgaa.fnFixed
