/- Proves the given statement on laws.FnFourVector: whatever the input, the law returns true and its input reads as it did. No conditions. -/
import Derived.Test.YthbgmmjgenkjpaaFr
import Derived.Test.YthbgmmjgenkjpaaWrd
import Derived.Test.YthbgmmjgenkjpaaWDrawV
import Derived.Test.YthbgmmjgenkjpaaLatV
import Derived.Test.YthbgmmjgenkjpaaWSame
import Derived.Test.YthbgmmjgenkjpaaWMark
set_option linter.unusedVariables false
namespace Go.Proofs.Ythbgmmjgenkjpaa.fnFourVector
open Go.ChangeShapes Go.WideShapes Go.ChangeAt Go.RowKit
open Go.ChangeMaps (open_string shut_string)
open Res

theorem fourOk_iff {p q : Int} (h : fourOk p q = true) : (0 ≤ p ∧ p ≤ 23) ∧ (0 ≤ q ∧ q ≤ 23) ∧ p.toNat ≠ q.toNat := by
  unfold fourOk at h
  rw [Bool.and_eq_true, Bool.and_eq_true, inB_iff, inB_iff] at h
  obtain ⟨⟨h1, h2⟩, h3⟩ := h
  have : p ≠ q := by simpa using h3
  exact ⟨h1, h2, by omega⟩

theorem walk (a0 : Option Addr) (len0 cap0 : Nat) (z0 : List Int) (w : World) (w0 : IsRow .u8 w a0 len0 cap0 z0) :
    Calls Try.prog 3 #[.slice a0 len0 cap0] w fun e w' => e = .returned (.bool true) ∧ Below w.heap.size w w' := by
  obtain ⟨hc, hlen⟩ := w0.code
  clear w0
  generalize z0.take len0 = l at *
  subst hlen
  by_cases hbig : 1048576 < l.length
  · go_enter Try.func3, Try.ntmps3
    go_wp2
    go_ret
    exact ⟨rfl, Below.refl _ _⟩
  · have hl : (l.length : Int) ≤ 1048576 := by omega
    go_enter Try.func3, Try.ntmps3
    go_wp2_with fail
    refine (DrawLatticeFour_any _ _ l _ hc).mono ?_
    rintro e w1 ⟨p, q, f, s, rfl, hb1⟩
    cases hv : fourOk p q
    · go_wp2_with fail
      refine (implLatticeFour_no _ _ _ _ _ hv).mono ?_
      rintro e w2 ⟨v2, rfl, hO2, hs2⟩
      obtain ⟨a2, c2, rfl, hR2, hl2, hc2⟩ := hO2.shape
      have hb2 := hb1.trans (hs2.mono hb1.size)
      go_wp2_with fail
      refine (specLatticeFour_no _ _ _ _ _ hv).mono ?_
      rintro e w3 ⟨v3, rfl, hO3, hs3⟩
      obtain ⟨a3, c3, rfl, hR3, hl3, hc3⟩ := hO3.shape
      have hb3 := hb2.trans (hs3.mono hb2.size)
      go_wp2_with fail
      refine (sameInts_same _ _ _ _ [] _ (by simp) (hR2.kept hs3) hR3).mono ?_
      rintro e w4 ⟨rfl, hs4⟩
      have hb4 := hb3.trans (hs4.mono hb3.size)
      go_wp2_with fail
      refine (sameInts_same _ _ _ _ [] _ (by simp) (hR2.kept (bel2 hs3 hs4)) (hR3.kept hs4)).mono ?_
      rintro e w5 ⟨rfl, hs5⟩
      have hb5 := hb4.trans (hs5.mono hb4.size)
      go_wp2_with fail
      go_ret
      exact ⟨rfl, hb5⟩
    · obtain ⟨hp, hq, hpq⟩ := fourOk_iff hv
      have F1 := fourL_facts (p := p.toNat) (q := q.toNat) f s (by omega) (by omega) hpq
      have F2 := fourL_facts (p := p.toNat) (q := q.toNat) (!f) (!s) (by omega) (by omega) hpq
      have F3 := fourL_minus (p := p.toNat) (q := q.toNat) f s (by omega) (by omega) hpq
      have C1 := Lib.hid (fun (w : World) => implLatticeFour_ok p q f s w hv)
      have C2 := Lib.hid (fun (w : World) => specLatticeFour_ok p q f s w hv)
      have C3 := Lib.hid (fun (w : World) => implLatticeFour_ok p q (!f) (!s) w hv)
      have hL : (fourL p.toNat q.toNat f s).length ≤ 24 := Nat.le_of_eq (fourL_length p.toNat q.toNat f s)
      have hM : (fourL p.toNat q.toNat (!f) (!s)).length ≤ 24 := Nat.le_of_eq (fourL_length p.toNat q.toNat (!f) (!s))
      have hZ1 := zeros_ok
      have hZ2 := zeros_dot
      have hZ : (List.replicate 24 (0 : Int)).length ≤ 24 := by simp
      generalize fourL p.toNat q.toNat f s = L at *
      generalize fourL p.toNat q.toNat (!f) (!s) = M at *
      generalize List.replicate 24 (0 : Int) = Z at *
      have C4 : Hid (∀ a c b d w, Reads .i64 w a L → Reads .i64 w b L → Calls Try.prog 18 #[.slice a L.length c, .slice b L.length d] w fun e w' => e = .returned (.tuple #[.int .i64 32, .bool true]) ∧ Below w.heap.size w w') :=
        Lib.hid (fun a c b d w hr hs => by rw [← F1.2]; exact implLatticeInner_ok a b c d L L w hr hs (vec_of_lat F1.1) (vec_of_lat F1.1))
      have C5 : Hid (∀ a c b d w, Reads .i64 w a L → Reads .i64 w b M → Calls Try.prog 19 #[.slice a L.length c, .slice b M.length d] w fun e w' => ∃ v, e = .returned (.tuple #[v, .bool true]) ∧ Owns w.heap.size w' v Z ∧ Below w.heap.size w w') :=
        Lib.hid (fun a c b d w hr hs => by
          refine (implLatticeAdd_ok a b c d L M w hr hs F1.1 F2.1).mono fun e w' h => ?_
          rw [F3] at h
          exact h.1 hZ1)
      have C6 : Hid (∀ a c b d w, Reads .i64 w a Z → Reads .i64 w b Z → Calls Try.prog 18 #[.slice a Z.length c, .slice b Z.length d] w fun e w' => e = .returned (.tuple #[.int .i64 0, .bool true]) ∧ Below w.heap.size w w') :=
        Lib.hid (fun a c b d w hr hs => by rw [← hZ2]; exact implLatticeInner_ok a b c d Z Z w hr hs hZ1 hZ1)
      have C7 : Hid (∀ a c w, Reads .i64 w a L → Calls Try.prog 20 #[.slice a L.length c] w fun e w' => e = .returned (.bool true) ∧ Below w.heap.size w w') :=
        Lib.hid (fun a c w hr => by rw [← F1.1]; exact implLatticeIn_any a c L w (by omega) hr)
      clear F1 F2 F3 hZ1 hZ2 hv
      go_wp2_with fail
      refine (C1.out _).mono ?_
      rintro e w2 ⟨v2, rfl, hO2, hs2⟩
      obtain ⟨a2, c2, rfl, hR2, hl2, hc2⟩ := hO2.shape
      have hb2 := hb1.trans (hs2.mono hb1.size)
      go_wp2_with fail
      refine (C2.out _).mono ?_
      rintro e w3 ⟨v3, rfl, hO3, hs3⟩
      obtain ⟨a3, c3, rfl, hR3, hl3, hc3⟩ := hO3.shape
      have hb3 := hb2.trans (hs3.mono hb2.size)
      go_wp2_with fail
      refine (sameInts_same _ _ _ _ L _ (by omega) (hR2.kept hs3) hR3).mono ?_
      rintro e w4 ⟨rfl, hs4⟩
      have hb4 := hb3.trans (hs4.mono hb3.size)
      go_wp2_with fail
      refine (C4.out _ _ _ _ _ (hR2.kept (bel2 hs3 hs4)) (hR2.kept (bel2 hs3 hs4))).mono ?_
      rintro e w5 ⟨rfl, hs5⟩
      have hb5 := hb4.trans (hs5.mono hb4.size)
      go_wp2_with fail
      refine (C3.out _).mono ?_
      rintro e w6 ⟨v6, rfl, hO6, hs6⟩
      obtain ⟨a6, c6, rfl, hR6, hl6, hc6⟩ := hO6.shape
      have hb6 := hb5.trans (hs6.mono hb5.size)
      go_wp2_with fail
      refine (C5.out _ _ _ _ _ (hR2.kept (bel2 (bel2 (bel2 hs3 hs4) hs5) hs6)) hR6).mono ?_
      rintro e w7 ⟨v7, rfl, hO7, hs7⟩
      obtain ⟨a7, c7, rfl, hR7, hl7, hc7⟩ := hO7.shape
      have hb7 := hb6.trans (hs7.mono hb6.size)
      go_wp2_with fail
      refine (C6.out _ _ _ _ _ hR7 hR7).mono ?_
      rintro e w8 ⟨rfl, hs8⟩
      have hb8 := hb7.trans (hs8.mono hb7.size)
      go_wp2_with fail
      refine (C7.out _ _ _ (hR2.kept (bel2 (bel2 (bel2 (bel2 (bel2 hs3 hs4) hs5) hs6) hs7) hs8))).mono ?_
      rintro e w9 ⟨rfl, hs9⟩
      have hb9 := hb8.trans (hs9.mono hb8.size)
      go_wp2_with fail
      go_ret
      exact ⟨rfl, hb9⟩

set_option maxRecDepth 100000 in
theorem lifted (os : Os) (started : os.Started) (H : Type) (enc : TypeId × Value → H) :
    ReturnsInHanded {} Try.checked os 3 .any (Rows.fnFourVectorSpec.pre6 enc Try.prog Try.f3 Rows.fnFourVectorRow.domain false) (Rows.fnFourVectorSpec.post enc Try.prog Try.f3 false true false false) := by
  refine returnsInHanded_of_change (C := Try.checked) own started (by kernel_rfl) Try.func3
    (ChangeSpec.witness6 (enc := enc) (C := Try.checked) false ⟨#[], #[.slice none 0 0], []⟩ 8 (by kernel_rfl) (by kernel_rfl) (by kernel_rfl) (by kernel_rfl)) ?_
  intro W base args ds gs before hval0 hW hcnd _
  have hval : ∀ (j : Nat) t v, Try.f3.params[j]? = some t → args[j]? = some v → Value.okWide Try.prog W .any base t v := hval0
  have hW' := hW
  obtain ⟨p, q, hA0, hV, rfl, hfz, hnd⟩ := hW
  have hA : DataW.TrodAll enc Try.prog W 0 (fun _ => true) true Try.f3.params.toList args.toList ds p := hA0
  rw [Try.params3] at hA hval
  obtain ⟨v0, vs0, d0, ds0, p0, q0, hargs, rfl, rfl, h0, r0⟩ := trodAll_cons hA
  obtain ⟨rfl, rfl, rfl⟩ := trodAll_nil r0
  obtain rfl : args = #[v0] := by cases args; simp_all
  obtain ⟨rfl, rfl⟩ := trodVars_none hV
  obtain ⟨a0, len0, cap0, rfl⟩ := okWide_slice Try.underlying22 (hval 0 22 v0 rfl rfl)
  have k0 := h0
  have lt0 : ∀ x ∈ p0, x.block < W.heap.size := by obtain ⟨m, hm⟩ := k0; exact DataW.trod_lt m _ _ _ hm
  obtain ⟨z0, w0⟩ : ∃ zs, IsRow .u8 W a0 len0 cap0 zs := by
    obtain ⟨fuel, hf⟩ := h0
    rcases open_ints Try.underlying22 Try.underlying5 (by kernel_rfl) hf with ⟨hcs, _⟩ | ⟨x, l, c, zs, hcs, _, hl, hm, hz, _, hcell, hwz⟩
    · simp [Value.cells] at hcs
      obtain ⟨rfl, rfl, rfl⟩ := hcs
      exact ⟨[], .inl ⟨rfl, rfl, rfl, rfl⟩⟩
    · simp [Value.cells] at hcs
      obtain ⟨rfl, rfl, rfl⟩ := hcs
      exact ⟨zs, .inr ⟨_, rfl, hl, hm, by simpa using hz, hcell, hwz⟩⟩
  clear hA0 hval0
  refine (walk a0 len0 cap0 z0 W w0).mono fun e W' ⟨he, bel⟩ => ?_
  subst he
  exact ⟨_, rfl, _, _, _, [], _, [], hW', trodAll_mk1 (shut_bool Try.underlying4 _), (trodAll_cons_mk (Below.trod laidOut (by kernel_rfl) (of_decide_eq_true (by kernel_rfl)) k0 bel lt0) trodAll_mk0), rfl, bel.frame _, fun h => by cases h⟩

theorem closed : joinedFacts Try.checked.prog 3 Try.f3 Rows.fnFourVectorSpec Rows.fnFourVectorRow = true := by
  unfold joinedFacts
  rw [may, made, lifts]
  kernel_rfl

theorem over : Rows.fnFourVectorRow.holds Try.pinned (OpenSpec.ofChange Rows.fnFourVectorSpec) :=
  OpenClaim.holds_of_wide 3 Try.f3 rfl rfl rfl rfl rfl rfl rfl ⟨rfl, rfl, rfl, rfl, rfl⟩ rfl rfl rfl rfl rfl (by kernel_rfl) Try.func3 closed
    (of_decide_eq_true (by kernel_rfl)) (by unfold Func.isWrapper; first | (rw [if_pos (by decide +kernel)]; kernel_rfl) | (rw [if_neg (by decide +kernel)]; exact ⟨rfl, rfl⟩))
    (fun os started H enc _ => lifted os started H enc)

/-- The given statement. -/
theorem proved : Rows.FnFourVectorSaid := over
#print axioms proved

end Go.Proofs.Ythbgmmjgenkjpaa.fnFourVector
