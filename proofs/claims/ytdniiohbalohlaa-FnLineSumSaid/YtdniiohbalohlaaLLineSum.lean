/- Proves the given statement on laws.FnLineSum: whatever the input, the law returns true and its input reads as it did. No conditions. -/
import Derived.Test.YtdniiohbalohlaaFr
import Derived.Test.YtdniiohbalohlaaWDrawLn
import Derived.Test.YtdniiohbalohlaaWLnIn
import Derived.Test.YtdniiohbalohlaaLnWt
set_option linter.unusedVariables false
namespace Go.Proofs.Ytdniiohbalohlaa.fnLineSum
open Go.ChangeShapes Go.WideShapes Go.ChangeAt Go.RowKit
open Go.ChangeMaps (open_string shut_string)
open Res

theorem walk (a0 : Option Addr) (len0 cap0 : Nat) (z0 : List Int) (w : World) (w0 : IsRow .u8 w a0 len0 cap0 z0) :
    Calls Try.prog 13 #[.slice a0 len0 cap0] w fun e w' => e = .returned (.bool true) ∧ Below w.heap.size w w' := by
  obtain ⟨hc, hlen⟩ := w0.code
  clear w0
  generalize z0.take len0 = l at *
  subst hlen
  by_cases hbig : 1048576 < l.length
  · go_enter Try.func13, Try.ntmps13
    go_wp2
    go_ret
    exact ⟨rfl, Below.refl _ _⟩
  · have hl : (l.length : Int) ≤ 1048576 := by omega
    go_enter Try.func13, Try.ntmps13
    go_wp2_with fail
    refine (DrawLineSum_any _ _ l _ hc).mono ?_
    rintro e w1 ⟨k, rfl, -, hb1⟩
    cases hb : inB k 0 16777215
    · go_wp2_with fail
      refine (implLineSum_no _ _ hb).mono ?_
      rintro e w' ⟨rfl, rfl⟩
      go_wp2_with fail
      refine (specLineSum_no _ _ hb).mono ?_
      rintro e w' ⟨rfl, rfl⟩
      go_wp2_with fail
      go_ret
      exact ⟨rfl, hb1⟩
    · obtain ⟨h0, h1⟩ := inB_iff.1 hb
      clear hb hbig
      obtain ⟨k, rfl⟩ := Int.eq_ofNat_of_zero_le h0
      go_wp2_with fail
      refine (implLineSum_ok _ _ h0 h1).mono ?_
      rintro e w2 ⟨rfl, hs2⟩
      have hb2 := hb1.trans (hs2.mono hb1.size)
      go_wp2_with fail
      refine (specLineSum_ok _ _ h0 h1).mono ?_
      rintro e w' ⟨rfl, rfl⟩
      rw [Int.toNat_natCast]
      have hlt := lineSum_lt k
      have hwt := wtOk_cases (lineSum_wt k)
      have hin := lineSum_in k
      have hrest := rest_sum k
      have hm : bits .and .i64 (k : Int) 8388607 = ((k &&& 8388607 : Nat) : Int) := i64_and k 8388607 (by omega) (by omega)
      have hml : k &&& 8388607 ≤ 8388607 := Nat.and_le_right
      have hx : bits .xor .i64 ((k &&& 8388607 : Nat) : Int) 8388607 = (((k &&& 8388607) ^^^ 8388607 : Nat) : Int) := i64_xor _ 8388607 (by omega) (by omega)
      have hxl : (k &&& 8388607) ^^^ 8388607 < 2 ^ 24 := Nat.xor_lt_two_pow (by omega) (by omega)
      generalize hr : (k &&& 8388607) ^^^ 8388607 = r at *
      have hrl := lineSum_lt r
      have hal := lineSum_lt 8388607
      have hxs : bits .xor .i64 ((lineSum k : Nat) : Int) ((lineSum r : Nat) : Int) = ((lineSum 8388607 : Nat) : Int) := by rw [i64_xor _ _ (by omega) (by omega), hrest]
      have X := Lib.hid (And.intro hm (And.intro hx hxs))
      have Y := Lib.hid hwt
      have hwl := wt_le (lineSum k)
      have hrl' : (r : Int) ≤ 16777215 := by omega
      clear hm hx hxs hr hrest hwt
      go_wp2_with fail
      refine (WordWeight_ok _ _ (by omega) (by omega)).mono ?_
      rintro e w' ⟨rfl, rfl⟩
      rw [Int.toNat_natCast]
      go_wp2_with fail
      rw [X.out.1, X.out.2.1]
      refine (implLineSum_ok _ _ (by omega) (by omega)).mono ?_
      rintro e w3 ⟨rfl, hs3⟩
      rw [Int.toNat_natCast]
      go_wp2_with fail
      refine (implLineSum_ok _ _ (by omega) (by omega)).mono ?_
      rintro e w4 ⟨rfl, hs4⟩
      rw [show (8388607 : Int).toNat = 8388607 from rfl]
      have hq : (bits .xor .i64 ((lineSum k : Nat) : Int) ((lineSum r : Nat) : Int) == ((lineSum 8388607 : Nat) : Int)) = true := by rw [beq_iff_eq]; exact X.out.2.2
      clear X
      generalize hL : lineSum k = L at *
      generalize wt L = n at *
      generalize lineSum 8388607 = A at *
      generalize lineSum r = R at *
      go_wp2_with fail
      refine (implLineIn_ok _ _ (by omega) (by omega)).mono ?_
      rintro e w5 ⟨rfl, hs5⟩
      rw [Int.toNat_natCast, hin]
      have hb5 := ((hb2.trans (hs3.mono hb2.size)).trans (hs4.mono (hb2.trans (hs3.mono hb2.size)).size))
      have hb6 := hb5.trans (hs5.mono hb5.size)
      clear hs2 hs3 hs4 hs5 hb5 hL
      rcases Y.out with rfl | rfl | rfl | rfl | rfl
      all_goals
        go_wp2_with fail
        go_ret
        exact ⟨rfl, hb6⟩

set_option maxRecDepth 100000 in
theorem lifted (os : Os) (started : os.Started) (H : Type) (enc : TypeId × Value → H) :
    ReturnsInHanded {} Try.checked os 13 .any (Rows.fnLineSumSpec.pre6 enc Try.prog Try.f13 Rows.fnLineSumRow.domain false) (Rows.fnLineSumSpec.post enc Try.prog Try.f13 false true false false) := by
  refine returnsInHanded_of_change (C := Try.checked) own started (by kernel_rfl) Try.func13
    (ChangeSpec.witness6 (enc := enc) (C := Try.checked) false ⟨#[], #[.slice none 0 0], []⟩ 8 (by kernel_rfl) (by kernel_rfl) (by kernel_rfl) (by kernel_rfl)) ?_
  intro W base args ds gs before hval0 hW hcnd _
  have hval : ∀ (j : Nat) t v, Try.f13.params[j]? = some t → args[j]? = some v → Value.okWide Try.prog W .any base t v := hval0
  have hW' := hW
  obtain ⟨p, q, hA0, hV, rfl, hfz, hnd⟩ := hW
  have hA : DataW.TrodAll enc Try.prog W 0 (fun _ => true) true Try.f13.params.toList args.toList ds p := hA0
  rw [Try.params13] at hA hval
  obtain ⟨v0, vs0, d0, ds0, p0, q0, hargs, rfl, rfl, h0, r0⟩ := trodAll_cons hA
  obtain ⟨rfl, rfl, rfl⟩ := trodAll_nil r0
  obtain rfl : args = #[v0] := by cases args; simp_all
  obtain ⟨rfl, rfl⟩ := trodVars_none hV
  obtain ⟨a0, len0, cap0, rfl⟩ := okWide_slice Try.underlying25 (hval 0 25 v0 rfl rfl)
  have k0 := h0
  have lt0 : ∀ x ∈ p0, x.block < W.heap.size := by obtain ⟨m, hm⟩ := k0; exact DataW.trod_lt m _ _ _ hm
  obtain ⟨z0, w0⟩ : ∃ zs, IsRow .u8 W a0 len0 cap0 zs := by
    obtain ⟨fuel, hf⟩ := h0
    rcases open_ints Try.underlying25 Try.underlying5 (by kernel_rfl) hf with ⟨hcs, _⟩ | ⟨x, l, c, zs, hcs, _, hl, hm, hz, _, hcell, hwz⟩
    · simp [Value.cells] at hcs
      obtain ⟨rfl, rfl, rfl⟩ := hcs
      exact ⟨[], .inl ⟨rfl, rfl, rfl, rfl⟩⟩
    · simp [Value.cells] at hcs
      obtain ⟨rfl, rfl, rfl⟩ := hcs
      exact ⟨zs, .inr ⟨_, rfl, hl, hm, by simpa using hz, hcell, hwz⟩⟩
  clear hA0 hval0
  refine (walk a0 len0 cap0 z0 W w0).mono fun e W' ⟨he, bel⟩ => ?_
  subst he
  exact ⟨_, rfl, _, _, _, [], _, [], hW', trodAll_mk1 (shut_bool Try.underlying4 _), (trodAll_cons_mk (Below.trod laidOut (by kernel_rfl) (of_decide_eq_true (by kernel_rfl)) k0 bel lt0) trodAll_mk0), rfl, bel.frame _, fun h => by cases h⟩

theorem over : Rows.fnLineSumRow.holds Try.pinned (OpenSpec.ofChange Rows.fnLineSumSpec) :=
  OpenClaim.holds_of_wide 13 Try.f13 rfl rfl rfl rfl rfl rfl rfl ⟨rfl, rfl, rfl, rfl, rfl⟩ rfl rfl rfl rfl rfl (by kernel_rfl) Try.func13 (by kernel_rfl)
    (of_decide_eq_true (by kernel_rfl)) (by unfold Func.isWrapper; first | (rw [if_pos (by decide +kernel)]; kernel_rfl) | (rw [if_neg (by decide +kernel)]; exact ⟨rfl, rfl⟩))
    (fun os started H enc _ => lifted os started H enc)

/-- The given statement. -/
theorem proved : Rows.FnLineSumSaid := over
#print axioms proved

end Go.Proofs.Ytdniiohbalohlaa.fnLineSum
