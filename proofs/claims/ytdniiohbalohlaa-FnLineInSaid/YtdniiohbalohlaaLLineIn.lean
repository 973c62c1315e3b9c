/- Proves the given statement on laws.FnLineIn: whatever the input, the law returns true and its input reads as it did. No conditions. -/
import Derived.Test.YtdniiohbalohlaaFr
import Derived.Test.YtdniiohbalohlaaWDrawLn
import Derived.Test.YtdniiohbalohlaaWLnIn
import Derived.Test.YtdniiohbalohlaaWLnInS
import Derived.Test.YtdniiohbalohlaaLnWt
set_option linter.unusedVariables false
namespace Go.Proofs.Ytdniiohbalohlaa.fnLineIn
open Go.ChangeShapes Go.WideShapes Go.ChangeAt Go.RowKit
open Go.ChangeMaps (open_string shut_string)
open Res

theorem walk (a0 : Option Addr) (len0 cap0 : Nat) (z0 : List Int) (w : World) (w0 : IsRow .u8 w a0 len0 cap0 z0) :
    Calls Try.prog 14 #[.slice a0 len0 cap0] w fun e w' => e = .returned (.bool true) ∧ Below w.heap.size w w' := by
  obtain ⟨hc, hlen⟩ := w0.code
  clear w0
  generalize z0.take len0 = l at *
  subst hlen
  by_cases hbig : 1048576 < l.length
  · go_enter Try.func14, Try.ntmps14
    go_wp2
    go_ret
    exact ⟨rfl, Below.refl _ _⟩
  · have hl : (l.length : Int) ≤ 1048576 := by omega
    go_enter Try.func14, Try.ntmps14
    go_wp2_with fail
    refine (DrawLineIn_any _ _ l _ hc).mono ?_
    rintro e w1 ⟨k, rfl, -, hb1⟩
    cases hb : inB k 0 16777215
    · go_wp2_with fail
      refine (implLineIn_no _ _ hb).mono ?_
      rintro e w' ⟨rfl, rfl⟩
      go_wp2_with fail
      refine (specLineIn_no _ _ hb).mono ?_
      rintro e w' ⟨rfl, rfl⟩
      go_wp2_with fail
      go_ret
      exact ⟨rfl, hb1⟩
    · obtain ⟨h0, h1⟩ := inB_iff.1 hb
      clear hb hbig
      obtain ⟨k, rfl⟩ := Int.eq_ofNat_of_zero_le h0
      go_wp2_with fail
      refine (implLineIn_ok _ _ h0 h1).mono ?_
      rintro e w2 ⟨rfl, hs2⟩
      have hb2 := hb1.trans (hs2.mono hb1.size)
      go_wp2_with fail
      refine (specLineIn_ok _ _ h0 h1).mono ?_
      rintro e w' ⟨rfl, rfl⟩
      rw [Int.toNat_natCast]
      cases hin : lineInB k
      · go_wp2_with fail
        go_ret
        exact ⟨rfl, hb2⟩
      · have hwt := wtOk_cases (lineIn_wt hin)
        have hx1 : bits .xor .i64 (k : Int) 16777215 = ((k ^^^ 16777215 : Nat) : Int) := i64_xor k 16777215 (by omega) (by omega)
        have hl1 : k ^^^ 16777215 < 2 ^ 24 := Nat.xor_lt_two_pow (by omega) (by omega)
        have hi1 := lineIn_xor hin all_in
        have hg := gen_le 7 (by omega)
        have hx2 : bits .xor .i64 (k : Int) ((gen 7 : Nat) : Int) = ((k ^^^ gen 7 : Nat) : Int) := i64_xor k (gen 7) (by omega) (by omega)
        have hl2 : k ^^^ gen 7 < 2 ^ 24 := Nat.xor_lt_two_pow (by omega) (by omega)
        have hi2 := lineIn_xor hin (gen_in (i := 7) (by omega))
        have C0 := implLineWord_ok 7 w2 (by omega) (by omega)
        rw [show (7 : Int).toNat = 7 from rfl] at C0
        generalize gen 7 = G at *
        have X := Lib.hid (And.intro hx1 hx2)
        clear hx1 hx2 hs2
        generalize k ^^^ 16777215 = A at *
        generalize k ^^^ G = B at *
        have Y := Lib.hid hwt
        have hwl := wt_le k
        have H1 := Lib.hid hi1
        have H2 := Lib.hid hi2
        have HC := Lib.hid C0
        have hAl : (A : Int) ≤ 16777215 := by omega
        have hBl : (B : Int) ≤ 16777215 := by omega
        clear hi1 hi2 hwt C0 hin
        go_wp2_with fail
        refine HC.out.mono ?_
        rintro e w' ⟨rfl, rfl⟩
        go_wp2_with fail
        refine (WordWeight_ok _ _ (by omega) (by omega)).mono ?_
        rintro e w' ⟨rfl, rfl⟩
        rw [Int.toNat_natCast]
        generalize wt k = n at *
        go_wp2_with fail
        rw [X.out.1]
        refine (implLineIn_ok _ _ (by omega) (by omega)).mono ?_
        rintro e w3 ⟨rfl, hs3⟩
        rw [Int.toNat_natCast, H1.out]
        go_wp2_with fail
        rw [X.out.2]
        refine (implLineIn_ok _ _ (by omega) (by omega)).mono ?_
        rintro e w4 ⟨rfl, hs4⟩
        rw [Int.toNat_natCast, H2.out]
        have hb3 := hb2.trans (hs3.mono hb2.size)
        have hb4 := hb3.trans (hs4.mono hb3.size)
        clear hs3 hs4 hb3 X H1 H2
        rcases Y.out with rfl | rfl | rfl | rfl | rfl
        all_goals
          go_wp2_with fail
          go_ret
          exact ⟨rfl, hb4⟩

set_option maxRecDepth 100000 in
theorem lifted (os : Os) (started : os.Started) (H : Type) (enc : TypeId × Value → H) :
    ReturnsInHanded {} Try.checked os 14 .any (Rows.fnLineInSpec.pre6 enc Try.prog Try.f14 Rows.fnLineInRow.domain false) (Rows.fnLineInSpec.post enc Try.prog Try.f14 false true false false) := by
  refine returnsInHanded_of_change (C := Try.checked) own started (by kernel_rfl) Try.func14
    (ChangeSpec.witness6 (enc := enc) (C := Try.checked) false ⟨#[], #[.slice none 0 0], []⟩ 8 (by kernel_rfl) (by kernel_rfl) (by kernel_rfl) (by kernel_rfl)) ?_
  intro W base args ds gs before hval0 hW hcnd _
  have hval : ∀ (j : Nat) t v, Try.f14.params[j]? = some t → args[j]? = some v → Value.okWide Try.prog W .any base t v := hval0
  have hW' := hW
  obtain ⟨p, q, hA0, hV, rfl, hfz, hnd⟩ := hW
  have hA : DataW.TrodAll enc Try.prog W 0 (fun _ => true) true Try.f14.params.toList args.toList ds p := hA0
  rw [Try.params14] at hA hval
  obtain ⟨v0, vs0, d0, ds0, p0, q0, hargs, rfl, rfl, h0, r0⟩ := trodAll_cons hA
  obtain ⟨rfl, rfl, rfl⟩ := trodAll_nil r0
  obtain rfl : args = #[v0] := by cases args; simp_all
  obtain ⟨rfl, rfl⟩ := trodVars_none hV
  obtain ⟨a0, len0, cap0, rfl⟩ := okWide_slice Try.underlying25 (hval 0 25 v0 rfl rfl)
  have k0 := h0
  have lt0 : ∀ x ∈ p0, x.block < W.heap.size := by obtain ⟨m, hm⟩ := k0; exact DataW.trod_lt m _ _ _ hm
  obtain ⟨z0, w0⟩ : ∃ zs, IsRow .u8 W a0 len0 cap0 zs := by
    obtain ⟨fuel, hf⟩ := h0
    rcases open_ints Try.underlying25 Try.underlying5 (by kernel_rfl) hf with ⟨hcs, _⟩ | ⟨x, l, c, zs, hcs, _, hl, hm, hz, _, hcell, hwz⟩
    · simp [Value.cells] at hcs
      obtain ⟨rfl, rfl, rfl⟩ := hcs
      exact ⟨[], .inl ⟨rfl, rfl, rfl, rfl⟩⟩
    · simp [Value.cells] at hcs
      obtain ⟨rfl, rfl, rfl⟩ := hcs
      exact ⟨zs, .inr ⟨_, rfl, hl, hm, by simpa using hz, hcell, hwz⟩⟩
  clear hA0 hval0
  refine (walk a0 len0 cap0 z0 W w0).mono fun e W' ⟨he, bel⟩ => ?_
  subst he
  exact ⟨_, rfl, _, _, _, [], _, [], hW', trodAll_mk1 (shut_bool Try.underlying4 _), (trodAll_cons_mk (Below.trod laidOut (by kernel_rfl) (of_decide_eq_true (by kernel_rfl)) k0 bel lt0) trodAll_mk0), rfl, bel.frame _, fun h => by cases h⟩

theorem over : Rows.fnLineInRow.holds Try.pinned (OpenSpec.ofChange Rows.fnLineInSpec) :=
  OpenClaim.holds_of_wide 14 Try.f14 rfl rfl rfl rfl rfl rfl rfl ⟨rfl, rfl, rfl, rfl, rfl⟩ rfl rfl rfl rfl rfl (by kernel_rfl) Try.func14 (by kernel_rfl)
    (of_decide_eq_true (by kernel_rfl)) (by unfold Func.isWrapper; first | (rw [if_pos (by decide +kernel)]; kernel_rfl) | (rw [if_neg (by decide +kernel)]; exact ⟨rfl, rfl⟩))
    (fun os started H enc _ => lifted os started H enc)

/-- The given statement. -/
theorem proved : Rows.FnLineInSaid := over
#print axioms proved

end Go.Proofs.Ytdniiohbalohlaa.fnLineIn
