/- Proves the given statement on laws.FnExecuteMend: whatever the input, the law returns true and its input reads as it did. No conditions. -/
import Derived.Test.YtmgdcnibmifdeaaGreatDoorFd
import Derived.Test.YtmgdcnibmifdeaaGreatDoorWXA
import Derived.Test.YtmgdcnibmifdeaaGreatDoorWXB
import Derived.Test.YtmgdcnibmifdeaaGreatDoorWMark
import Derived.Test.YtmgdcnibmifdeaaGreatDoorTie
import Derived.Test.YtmgdcnibmifdeaaGreatDoorCards
import Derived.SevenTiedAt
set_option linter.unusedVariables false
namespace Go.Proofs.YtmgdcnibmifdeaaGreatDoor.fnExecuteMend
open Go.ChangeShapes Go.WideShapes Go.ChangeAt Go.RowKit
open Go.ChangeMaps (open_string shut_string)
open Res

theorem implCodeMend_no (k : Int) (w : World) (h : inB k 0 16777215 = false) :
    Calls Tryz.prog 25 #[.int .i64 k] w fun e w' => e = .returned (.tuple #[.int .i64 0, .bool false]) ∧ w = w' := by
  go_enter Tryz.func25, Tryz.ntmps25
  go_wp2_with fail
  refine (implWordValid_any _ _).mono ?_
  rintro e w' ⟨rfl, rfl⟩
  go_wp2_with fail
  go_ret2
  exact ⟨rfl, rfl⟩
theorem exe_mend {n x : Nat} (h : n ≤ 16777215) (h3 : far n ≤ 3) (e : mendW n = x) (hx : codeB x = true) (w : World) (hG : Gl w) :
    Calls Tryz.prog 11 #[.string ((⟨#[115, 101, 116, 32]⟩ : ByteArray) ++ ⟨(dec n).toArray⟩ ++ ⟨#[10, 109, 101, 110, 100, 10, 105, 110, 10]⟩)] w fun e w' =>
      e = .returned (.string ((⟨#[111, 107, 10, 111, 107, 10, 121, 101, 115, 10, 119, 111, 114, 100, 32]⟩ : ByteArray) ++ ⟨(dec x).toArray⟩ ++ ⟨#[10]⟩)) ∧ Below w.heap.size w w' :=
  exe_lit (exec_mend h h3 e hx) (by rw [str_app [115, 101, 116, 32], str_app]; rfl) (by rw [str_app [111, 107, 10, 111, 107, 10, 121, 101, 115, 10, 119, 111, 114, 100, 32], str_app]) w hG

set_option maxHeartbeats 1000000 in
theorem walk (a0 : Option Addr) (len0 cap0 : Nat) (z0 : List Int) (w : World) (w0 : IsRow .u8 w a0 len0 cap0 z0) (hG : Gl w) :
    Calls Tryz.prog 8 #[.slice a0 len0 cap0] w fun e w' => e = .returned (.bool true) ∧ Below w.heap.size w w' := by
  obtain ⟨hc, hlen⟩ := w0.code
  clear w0
  generalize z0.take len0 = l at *
  subst hlen
  by_cases hbig : 1048576 < l.length
  · go_enter Tryz.func8, Tryz.ntmps8
    go_wp2
    go_ret
    exact ⟨rfl, Below.refl _ _⟩
  · have hl : (l.length : Int) ≤ 1048576 := by omega
    clear hbig
    have HG := Lib.hid hG
    clear hG
    go_enter Tryz.func8, Tryz.ntmps8
    go_wp2_with fail
    refine (DrawCodeMend_any _ _ l _ hc).mono ?_
    rintro e w1 ⟨k, rfl, -, hb1⟩
    cases hin : inB k 0 16777215
    · have C1 := Lib.hid (fun w => implCodeMend_no k w hin)
      have C2 := Lib.hid (fun w => specCodeMend_no k w hin)
      clear hin
      go_wp2_with fail
      refine (C1.out _).mono ?_
      rintro e w' ⟨rfl, rfl⟩
      go_wp2_with fail
      refine (C2.out _).mono ?_
      rintro e w2 ⟨rfl, hs2⟩
      have hb2 := hb1.trans (hs2.mono hb1.size)
      go_wp2_with fail
      go_ret
      exact ⟨rfl, hb2⟩
    · obtain ⟨k0, k1⟩ := inB_iff.1 hin
      obtain ⟨n, rfl⟩ := Int.eq_ofNat_of_zero_le k0
      have hn : n ≤ 16777215 := by omega
      have C1 := Lib.hid (fun w => implCodeMend_ok n w (by omega))
      have C2 := Lib.hid (fun w => specCodeMend_ok n w (by omega))
      unfold mendV at C1 C2
      by_cases h3 : far n ≤ 3
      · rw [if_pos h3] at C1 C2
        have C3 := Lib.hid (fun w => digits_any n w (by omega))
        have hml := mendW_lt n
        have C4 := Lib.hid (fun w => digits_any (mendW n) w (by omega))
        have CX := Lib.hid (fun w hG => exe_mend hn h3 rfl (mendW_in n) w hG)
        have hD : (dec n).length ≤ 9 := dec_length 8 (by omega)
        have hX : (dec (mendW n)).length ≤ 9 := dec_length 8 (by omega)
        clear hml hn h3 hin k0 k1
        generalize dec (mendW n) = X at *
        generalize dec n = D at *
        generalize mendW n = m at *
        go_wp2_with fail
        refine (C1.out _).mono ?_
        rintro e w2 ⟨rfl, hs2⟩
        have hb2 := hb1.trans (hs2.mono hb1.size)
        go_wp2_with fail
        refine (C2.out _).mono ?_
        rintro e w3 ⟨rfl, hs3⟩
        have hb3 := hb2.trans (hs3.mono hb2.size)
        go_wp2_with fail
        refine (C3.out _).mono ?_
        rintro e w4 ⟨rfl, hs4⟩
        have hb4 := hb3.trans (hs4.mono hb3.size)
        go_wp2_with fail
        refine (CX.out _ (HG.out.kept hb4)).mono ?_
        rintro e w5 ⟨rfl, hs5⟩
        have hb5 := hb4.trans (hs5.mono hb4.size)
        go_wp2_with fail
        refine (C4.out _).mono ?_
        rintro e w6 ⟨rfl, hs6⟩
        have hb6 := hb5.trans (hs6.mono hb5.size)
        go_wp2_with fail
        go_ret
        exact ⟨rfl, hb6⟩
      · rw [if_neg h3] at C1 C2
        clear hn h3 hin k0 k1
        go_wp2_with fail
        refine (C1.out _).mono ?_
        rintro e w2 ⟨rfl, hs2⟩
        have hb2 := hb1.trans (hs2.mono hb1.size)
        go_wp2_with fail
        refine (C2.out _).mono ?_
        rintro e w3 ⟨rfl, hs3⟩
        have hb3 := hb2.trans (hs3.mono hb2.size)
        go_wp2_with fail
        go_ret
        exact ⟨rfl, hb3⟩

set_option maxRecDepth 100000 in
theorem lifted (os : Os) (started : os.Started) (H : Type) (enc : TypeId × Value → H) :
    ReturnsInHanded {} Tryz.checked os 8 .any (fun w args => (Rows.fnExecuteMendSpec.pre enc Tryz.prog Tryz.f8 [] false w args ∧ laidMetH Tryz.prog laidL w) ∧ sizedMet enc Tryz.prog Tryz.f8 (OpenSpec.ofChange Rows.fnExecuteMendSpec) false w args) (Rows.fnExecuteMendSpec.post enc Tryz.prog Tryz.f8 false true false false) := by
  refine returns_laid (C := Tryz.checked) (X := fun w _ => laidMetH Tryz.prog laidL w) (fun _ _ _ hh h => h.of_heap hh) own started (by kernel_rfl) Tryz.func8
    (ChangeSpec.witness_shaped (enc := enc) (C := Tryz.checked) (os := os) (X := fun w _ => laidMetH Tryz.prog laidL w) false (wWorld os) #[.slice none 0 0] 8 (World.laidAll_os _ _ _) (w_shaped os _) (by kernel_rfl) (by kernel_rfl) (by kernel_rfl) (w_laid os _)) ?_
  intro W base args ds gs before hval0 hW hL hsh
  have hGl := gl_of hL hsh
  have hval : ∀ (j : Nat) t v, Tryz.f8.params[j]? = some t → args[j]? = some v → Value.okWide Tryz.prog W .any base t v := hval0
  have hW' := hW
  obtain ⟨p, q, hA0, hV, rfl, hfz, hnd⟩ := hW
  have hA : DataW.TrodAll enc Tryz.prog W 0 (fun _ => true) true Tryz.f8.params.toList args.toList ds p := hA0
  rw [Tryz.params8] at hA hval
  obtain ⟨v0, vs0, d0, ds0, p0, q0, hargs, rfl, rfl, h0, r0⟩ := trodAll_cons hA
  obtain ⟨rfl, rfl, rfl⟩ := trodAll_nil r0
  obtain rfl : args = #[v0] := by cases args; simp_all
  obtain ⟨rfl, rfl⟩ := trodVars_none hV
  obtain ⟨a0, len0, cap0, rfl⟩ := okWide_slice Tryz.underlying22 (hval 0 22 v0 rfl rfl)
  have k0 := h0
  have lt0 : ∀ x ∈ p0, x.block < W.heap.size := by obtain ⟨m, hm⟩ := k0; exact DataW.trod_lt m _ _ _ hm
  obtain ⟨z0, w0⟩ : ∃ zs, IsRow .u8 W a0 len0 cap0 zs := by
    obtain ⟨fuel, hf⟩ := h0
    rcases open_ints Tryz.underlying22 Tryz.underlying5 (by kernel_rfl) hf with ⟨hcs, _⟩ | ⟨x, l, c, zs, hcs, _, hl, hm, hz, _, hcell, hwz⟩
    · simp [Value.cells] at hcs
      obtain ⟨rfl, rfl, rfl⟩ := hcs
      exact ⟨[], .inl ⟨rfl, rfl, rfl, rfl⟩⟩
    · simp [Value.cells] at hcs
      obtain ⟨rfl, rfl, rfl⟩ := hcs
      exact ⟨zs, .inr ⟨_, rfl, hl, hm, by simpa using hz, hcell, hwz⟩⟩
  clear hA0 hval0
  refine (walk a0 len0 cap0 z0 W w0 hGl).mono fun e W' ⟨he, bel⟩ => ?_
  subst he
  exact ⟨_, rfl, _, _, _, [], _, [], hW', trodAll_mk1 (shut_bool Tryz.underlying4 _), (trodAll_cons_mk (Below.trod laidOut (by kernel_rfl) (of_decide_eq_true (by kernel_rfl)) k0 bel lt0) trodAll_mk0), rfl, bel.frame _, fun h => by cases h⟩

theorem closed : joinedFacts Tryz.checked.prog 8 Tryz.f8 Rows.fnExecuteMendSpec Rows.fnExecuteMendRow = true := by
  unfold joinedFacts
  rw [may, made, lifts]
  kernel_rfl

theorem over : Rows.fnExecuteMendRow.holds Tryz.pinned (OpenSpec.ofChange Rows.fnExecuteMendSpec) :=
  OpenClaim.holds_of_wide 8 Tryz.f8 rfl rfl rfl rfl rfl rfl rfl ⟨rfl, rfl, rfl, rfl, rfl⟩ rfl rfl rfl rfl rfl (by kernel_rfl) Tryz.func8 closed
    (of_decide_eq_true (by kernel_rfl)) (by unfold Func.isWrapper; first | (rw [if_pos (by decide +kernel)]; kernel_rfl) | (rw [if_neg (by decide +kernel)]; exact ⟨rfl, rfl⟩))
    (fun os started H enc _ => lifted os started H enc)

/-- The given statement. -/
theorem proved : Rows.FnExecuteMendCardSaid :=
  Claim7.holds_tied_plain_at .later [] [.data, .data, .data, .data, .sentinel, .sentinel, .pinned] true (true, "a73d649fc09ca5b53a2cbbb6acfca38d66e98a5710aa0dbb4462849d6badc29f") true over (fun _ h => by cases h) (by kernel_rfl) (fun _ h => by cases h) fnExecuteMend_row_tie rfl ⟨rfl, rfl⟩ (by kernel_rfl) rfl
    (fun f fn hf hfn => by
      obtain rfl : f = 8 := Option.some.inj ((show Tryz.prog.funcNamed "loop.example/golayoctads/laws.FnExecuteMend" = some 8 by kernel_rfl).symm.trans hf) |>.symm
      obtain rfl : fn = Tryz.f8 := (Option.some.inj (Tryz.func8.symm.trans hfn)).symm
      exact ⟨by kernel_rfl, fun j t ht => by
        rw [Tryz.params8] at ht
        have hm : t ∈ [22] := by simpa using Array.mem_of_getElem? ht
        have hall : ([22].all fun u => !Tryz.prog.wantsStandIn u) = true := by kernel_rfl
        exact (show Tryz.prog.wantsStandIn t = false by simpa using List.all_eq_true.1 hall t hm)⟩)
    (by kernel_rfl)
#print axioms proved

end Go.Proofs.YtmgdcnibmifdeaaGreatDoor.fnExecuteMend
