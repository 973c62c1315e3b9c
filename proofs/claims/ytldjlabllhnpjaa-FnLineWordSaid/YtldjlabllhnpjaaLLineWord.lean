/- Proves the given statement on laws.FnLineWord: whatever the input, the law returns true and its input reads as it did. No conditions. -/
import Derived.Test.YtldjlabllhnpjaaFr
import Derived.Test.YtldjlabllhnpjaaWrd
import Derived.Test.YtldjlabllhnpjaaWDrawRes
import Derived.Test.YtldjlabllhnpjaaWRes
import Derived.Test.YtldjlabllhnpjaaLnMv
import Derived.Test.YtldjlabllhnpjaaWMw
import Derived.Test.YtldjlabllhnpjaaWLnIn
import Derived.Test.YtldjlabllhnpjaaWMark
set_option linter.unusedVariables false
namespace Go.Proofs.Ytldjlabllhnpjaa.fnLineWord
open Go.ChangeShapes Go.WideShapes Go.ChangeAt Go.RowKit
open Go.ChangeMaps (open_string shut_string)
open Res

theorem walk (a0 : Option Addr) (len0 cap0 : Nat) (z0 : List Int) (w : World) (w0 : IsRow .u8 w a0 len0 cap0 z0) :
    Calls Try.prog 17 #[.slice a0 len0 cap0] w fun e w' => e = .returned (.bool true) ∧ Below w.heap.size w w' := by
  obtain ⟨hc, hlen⟩ := w0.code
  clear w0
  generalize z0.take len0 = l at *
  subst hlen
  by_cases hbig : 1048576 < l.length
  · go_enter Try.func17, Try.ntmps17
    go_wp2
    go_ret
    exact ⟨rfl, Below.refl _ _⟩
  · have hl : (l.length : Int) ≤ 1048576 := by omega
    go_enter Try.func17, Try.ntmps17
    go_wp2_with fail
    refine (DrawLineWord_any _ _ l _ hc).mono ?_
    rintro e w1 ⟨i, rfl, -, hb1⟩
    cases hb : inB i 0 22
    · go_wp2_with fail
      refine (implLineWord_no _ _ hb).mono ?_
      rintro e w' ⟨rfl, rfl⟩
      go_wp2_with fail
      refine (specLineWord_no _ _ hb).mono ?_
      rintro e w' ⟨rfl, rfl⟩
      go_wp2_with fail
      go_ret
      exact ⟨rfl, hb1⟩
    · obtain ⟨h0, h1⟩ := inB_iff.1 hb
      obtain ⟨F1, F2, F3⟩ := shift_gen i.toNat (by omega)
      have hmo := shift_ok h0 h1
      have hgl := gen_le i.toNat (by omega)
      have hg0 := gen_le 0 (by omega)
      have hgi := gen_in (i := i.toNat) (by omega)
      have C1 := Lib.hid (fun w => implLineWord_ok i w h0 h1)
      have C2 := Lib.hid (fun w => specLineWord_ok i w h0 h1)
      have C3 := Lib.hid (fun w => implLinePerm_ok 1 i 0 1 w hmo)
      have C4 := Lib.hid (fun w => implLineWord_ok 0 w (by omega) (by omega))
      rw [show (1 : Int).toNat = 1 from rfl, show (0 : Int).toNat = 0 from rfl] at C3
      rw [show (0 : Int).toNat = 0 from rfl] at C4
      have hpw : pwOk (ints (lp 1 i.toNat 0 1)) ((gen 0 : Nat) : Int) = true := by
        unfold pwOk
        rw [F1, inB_true (by omega) (by omega)]
        rfl
      have C5 := Lib.hid (fun a c w hr => implPermWord_ok a c (ints (lp 1 i.toNat 0 1)) ((gen 0 : Nat) : Int) w hr hpw)
      rw [Int.toNat_natCast, F2] at C5
      have C6 := Lib.hid (fun w => WordWeight_ok ((gen i.toNat : Nat) : Int) w (by omega) (by omega))
      rw [Int.toNat_natCast, F3] at C6
      have C7 := Lib.hid (fun w => implLineIn_ok ((gen i.toNat : Nat) : Int) w (by omega) (by omega))
      rw [Int.toNat_natCast, hgi] at C7
      generalize ints (lp 1 i.toNat 0 1) = P at *
      generalize gen i.toNat = G at *
      generalize gen 0 = G0 at *
      clear F1 F2 F3 hmo hpw hgi
      go_wp2_with fail
      refine (C1.out _).mono ?_
      rintro e w' ⟨rfl, rfl⟩
      go_wp2_with fail
      refine (C2.out _).mono ?_
      rintro e w' ⟨rfl, rfl⟩
      go_wp2_with fail
      refine (C3.out _).mono ?_
      rintro e w2 ⟨v2, rfl, hO2, hs2⟩
      obtain ⟨a2, c2, rfl, hR2, hl2, hc2⟩ := hO2.shape
      have hb2 := hb1.trans (hs2.mono hb1.size)
      go_wp2_with fail
      refine (C4.out _).mono ?_
      rintro e w' ⟨rfl, rfl⟩
      go_wp2_with fail
      refine (C5.out _ _ _ hR2).mono ?_
      rintro e w3 ⟨rfl, hs3⟩
      have hb3 := hb2.trans (hs3.mono hb2.size)
      go_wp2_with fail
      refine (C6.out _).mono ?_
      rintro e w' ⟨rfl, rfl⟩
      go_wp2_with fail
      refine (C7.out _).mono ?_
      rintro e w4 ⟨rfl, hs4⟩
      have hb4 := hb3.trans (hs4.mono hb3.size)
      go_wp2_with fail
      go_ret
      exact ⟨rfl, hb4⟩

set_option maxRecDepth 100000 in
theorem lifted (os : Os) (started : os.Started) (H : Type) (enc : TypeId × Value → H) :
    ReturnsInHanded {} Try.checked os 17 .any (Rows.fnLineWordSpec.pre6 enc Try.prog Try.f17 Rows.fnLineWordRow.domain false) (Rows.fnLineWordSpec.post enc Try.prog Try.f17 false true false false) := by
  refine returnsInHanded_of_change (C := Try.checked) own started (by kernel_rfl) Try.func17
    (ChangeSpec.witness6 (enc := enc) (C := Try.checked) false ⟨#[], #[.slice none 0 0], []⟩ 8 (by kernel_rfl) (by kernel_rfl) (by kernel_rfl) (by kernel_rfl)) ?_
  intro W base args ds gs before hval0 hW hcnd _
  have hval : ∀ (j : Nat) t v, Try.f17.params[j]? = some t → args[j]? = some v → Value.okWide Try.prog W .any base t v := hval0
  have hW' := hW
  obtain ⟨p, q, hA0, hV, rfl, hfz, hnd⟩ := hW
  have hA : DataW.TrodAll enc Try.prog W 0 (fun _ => true) true Try.f17.params.toList args.toList ds p := hA0
  rw [Try.params17] at hA hval
  obtain ⟨v0, vs0, d0, ds0, p0, q0, hargs, rfl, rfl, h0, r0⟩ := trodAll_cons hA
  obtain ⟨rfl, rfl, rfl⟩ := trodAll_nil r0
  obtain rfl : args = #[v0] := by cases args; simp_all
  obtain ⟨rfl, rfl⟩ := trodVars_none hV
  obtain ⟨a0, len0, cap0, rfl⟩ := okWide_slice Try.underlying29 (hval 0 29 v0 rfl rfl)
  have k0 := h0
  have lt0 : ∀ x ∈ p0, x.block < W.heap.size := by obtain ⟨m, hm⟩ := k0; exact DataW.trod_lt m _ _ _ hm
  obtain ⟨z0, w0⟩ : ∃ zs, IsRow .u8 W a0 len0 cap0 zs := by
    obtain ⟨fuel, hf⟩ := h0
    rcases open_ints Try.underlying29 Try.underlying5 (by kernel_rfl) hf with ⟨hcs, _⟩ | ⟨x, l, c, zs, hcs, _, hl, hm, hz, _, hcell, hwz⟩
    · simp [Value.cells] at hcs
      obtain ⟨rfl, rfl, rfl⟩ := hcs
      exact ⟨[], .inl ⟨rfl, rfl, rfl, rfl⟩⟩
    · simp [Value.cells] at hcs
      obtain ⟨rfl, rfl, rfl⟩ := hcs
      exact ⟨zs, .inr ⟨_, rfl, hl, hm, by simpa using hz, hcell, hwz⟩⟩
  clear hA0 hval0
  refine (walk a0 len0 cap0 z0 W w0).mono fun e W' ⟨he, bel⟩ => ?_
  subst he
  exact ⟨_, rfl, _, _, _, [], _, [], hW', trodAll_mk1 (shut_bool Try.underlying4 _), (trodAll_cons_mk (Below.trod laidOut (by kernel_rfl) (of_decide_eq_true (by kernel_rfl)) k0 bel lt0) trodAll_mk0), rfl, bel.frame _, fun h => by cases h⟩

theorem closed : joinedFacts Try.checked.prog 17 Try.f17 Rows.fnLineWordSpec Rows.fnLineWordRow = true := by
  unfold joinedFacts
  rw [may, made, lifts]
  kernel_rfl

theorem over : Rows.fnLineWordRow.holds Try.pinned (OpenSpec.ofChange Rows.fnLineWordSpec) :=
  OpenClaim.holds_of_wide 17 Try.f17 rfl rfl rfl rfl rfl rfl rfl ⟨rfl, rfl, rfl, rfl, rfl⟩ rfl rfl rfl rfl rfl (by kernel_rfl) Try.func17 closed
    (of_decide_eq_true (by kernel_rfl)) (by unfold Func.isWrapper; first | (rw [if_pos (by decide +kernel)]; kernel_rfl) | (rw [if_neg (by decide +kernel)]; exact ⟨rfl, rfl⟩))
    (fun os started H enc _ => lifted os started H enc)

/-- The given statement. -/
theorem proved : Rows.FnLineWordSaid := over
#print axioms proved

end Go.Proofs.Ytldjlabllhnpjaa.fnLineWord
