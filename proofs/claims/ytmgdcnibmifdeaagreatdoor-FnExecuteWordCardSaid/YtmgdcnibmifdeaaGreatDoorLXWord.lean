/- Proves the given statement on laws.FnExecuteWord: whatever the input, the law returns true and its input reads as it did. No conditions. -/
import Derived.Test.YtmgdcnibmifdeaaGreatDoorFd
import Derived.Test.YtmgdcnibmifdeaaGreatDoorWXA
import Derived.Test.YtmgdcnibmifdeaaGreatDoorWMark
import Derived.Test.YtmgdcnibmifdeaaGreatDoorWWd
import Derived.Test.YtmgdcnibmifdeaaGreatDoorWNr
import Derived.Test.YtmgdcnibmifdeaaGreatDoorWTxt
import Derived.Test.YtmgdcnibmifdeaaGreatDoorTie
import Derived.Test.YtmgdcnibmifdeaaGreatDoorCards
import Derived.SevenTiedAt
set_option linter.unusedVariables false
namespace Go.Proofs.YtmgdcnibmifdeaaGreatDoor.fnExecuteWord
open Go.ChangeShapes Go.WideShapes Go.ChangeAt Go.RowKit
open Go.ChangeMaps (open_string shut_string)
open Res

theorem implWordText_no (k : Int) (w : World) (h : inB k 0 16777215 = false) :
    Calls Tryz.prog 20 #[.int .i64 k] w fun e w' => e = .returned (.tuple #[.string ⟨#[]⟩, .bool false]) ∧ w = w' := by
  go_enter Tryz.func20, Tryz.ntmps20
  go_wp2_with fail
  refine (implWordValid_any _ _).mono ?_
  rintro e w' ⟨rfl, rfl⟩
  go_wp2_with fail
  go_ret2
  exact ⟨rfl, rfl⟩
theorem specWordText_no (k : Int) (w : World) (h : inB k 0 16777215 = false) :
    Calls Tryz.prog 21 #[.int .i64 k] w fun e w' => e = .returned (.tuple #[.string ⟨#[]⟩, .bool false]) ∧ w = w' := by
  go_enter Tryz.func21, Tryz.ntmps21
  go_wp2_with fail
  refine (specWordValid_any _ _).mono ?_
  rintro e w' ⟨rfl, rfl⟩
  go_wp2_with fail
  go_ret2
  exact ⟨rfl, rfl⟩
theorem implWordWeight_ok (n : Nat) (w : World) (hn : n < 16777216) :
    Calls Tryz.prog 22 #[.int .i64 (n : Int)] w fun e w' => e = .returned (.int .i64 ((wt n : Nat) : Int)) ∧ w = w' := by
  have hin : inB (n : Int) 0 16777215 = true := inB_true (by omega) (by omega)
  have C := Lib.hid (fun w => weight_any (n : Int) w (by omega) (by omega))
  rw [Int.toNat_natCast] at C
  generalize wt n = t at *
  clear hn
  go_enter Tryz.func22, Tryz.ntmps22
  go_wp2_with fail
  refine (implWordValid_any _ _).mono ?_
  rintro e w' ⟨rfl, rfl⟩
  go_wp2_with fail
  refine (C.out _).mono ?_
  rintro e w' ⟨rfl, rfl⟩
  go_wp2_with fail
  go_ret
  exact ⟨rfl, rfl⟩
theorem app9 (a b c d e f g h i : List UInt8) : (⟨a.toArray⟩ : ByteArray) ++ ⟨b.toArray⟩ ++ ⟨c.toArray⟩ ++ ⟨d.toArray⟩ ++ ⟨e.toArray⟩ ++ ⟨f.toArray⟩ ++ ⟨g.toArray⟩ ++ ⟨h.toArray⟩ ++ ⟨i.toArray⟩ = ⟨(a ++ b ++ c ++ d ++ e ++ f ++ g ++ h ++ i).toArray⟩ := by
  rw [str_app a b, str_app (a ++ b) c, str_app (a ++ b ++ c) d, str_app (a ++ b ++ c ++ d) e, str_app (a ++ b ++ c ++ d ++ e) f, str_app (a ++ b ++ c ++ d ++ e ++ f) g, str_app (a ++ b ++ c ++ d ++ e ++ f ++ g) h, str_app (a ++ b ++ c ++ d ++ e ++ f ++ g ++ h) i]
theorem app3 (a b c : List UInt8) : (⟨a.toArray⟩ : ByteArray) ++ ⟨b.toArray⟩ ++ ⟨c.toArray⟩ = ⟨(a ++ b ++ c).toArray⟩ := by
  rw [str_app a b, str_app (a ++ b) c]
theorem exe_word {n t f : Nat} (h : n ≤ 16777215) (ht : wt n = t) (hf : far n = f) (w : World) (hG : Gl w) :
    Calls Tryz.prog 11 #[.string ((⟨#[115, 101, 116, 32]⟩ : ByteArray) ++ ⟨(dec n).toArray⟩ ++ ⟨#[10, 115, 104, 111, 119, 10, 119, 101, 105, 103, 104, 116, 10, 110, 101, 97, 114, 10]⟩)] w fun e w' =>
      e = .returned (.string ((⟨#[111, 107, 10]⟩ : ByteArray) ++ ⟨(wText n).toArray⟩ ++ ⟨#[10]⟩ ++ ⟨(dec t).toArray⟩ ++ ⟨#[10]⟩ ++ ⟨(dec f).toArray⟩ ++ ⟨#[10, 119, 111, 114, 100, 32]⟩ ++ ⟨(dec n).toArray⟩ ++ ⟨#[10]⟩)) ∧ Below w.heap.size w w' :=
  exe_lit (exec_word h ht hf) (app3 [115, 101, 116, 32] (dec n) [10, 115, 104, 111, 119, 10, 119, 101, 105, 103, 104, 116, 10, 110, 101, 97, 114, 10])
    (app9 [111, 107, 10] (wText n) [10] (dec t) [10] (dec f) [10, 119, 111, 114, 100, 32] (dec n) [10]) w hG

set_option maxHeartbeats 1000000 in
theorem walk (a0 : Option Addr) (len0 cap0 : Nat) (z0 : List Int) (w : World) (w0 : IsRow .u8 w a0 len0 cap0 z0) (hG : Gl w) :
    Calls Tryz.prog 7 #[.slice a0 len0 cap0] w fun e w' => e = .returned (.bool true) ∧ Below w.heap.size w w' := by
  obtain ⟨hc, hlen⟩ := w0.code
  clear w0
  generalize z0.take len0 = l at *
  subst hlen
  by_cases hbig : 1048576 < l.length
  · go_enter Tryz.func7, Tryz.ntmps7
    go_wp2
    go_ret
    exact ⟨rfl, Below.refl _ _⟩
  · have hl : (l.length : Int) ≤ 1048576 := by omega
    clear hbig
    have HG := Lib.hid hG
    clear hG
    go_enter Tryz.func7, Tryz.ntmps7
    go_wp2_with fail
    refine (DrawWordText_any _ _ l _ hc).mono ?_
    rintro e w1 ⟨k, rfl, -, hb1⟩
    cases hin : inB k 0 16777215
    · have C1 := Lib.hid (fun w => implWordText_no k w hin)
      have C2 := Lib.hid (fun w => specWordText_no k w hin)
      clear hin
      go_wp2_with fail
      refine (C1.out _).mono ?_
      rintro e w' ⟨rfl, rfl⟩
      go_wp2_with fail
      refine (C2.out _).mono ?_
      rintro e w' ⟨rfl, rfl⟩
      go_wp2_with fail
      go_ret
      exact ⟨rfl, hb1⟩
    · obtain ⟨k0, k1⟩ := inB_iff.1 hin
      obtain ⟨n, rfl⟩ := Int.eq_ofNat_of_zero_le k0
      have hn : n ≤ 16777215 := by omega
      have C1 := Lib.hid (fun w => implWordText_ok n w (by omega))
      have C2 := Lib.hid (fun w => specWordText_ok n w (by omega))
      have C3 := Lib.hid (fun w => digits_any n w (by omega))
      have C4 := Lib.hid (fun w => implWordWeight_ok n w (by omega))
      have C5 := Lib.hid (fun w => digits_any (wt n) w (by have := wt_le n; omega))
      have C6 := Lib.hid (fun w => implCodeFar_ok n w (by omega))
      have hfl := far_le n
      have hD : (dec n).length ≤ 9 := dec_length 8 (by omega)
      have hT : (dec (wt n)).length ≤ 9 := dec_length 8 (by have := wt_le n; omega)
      have hWl : (wText n).length ≤ 30 := by rw [wText_length]; omega
      obtain ⟨f, hf⟩ : ∃ f, far n = f := ⟨_, rfl⟩
      obtain ⟨t, ht⟩ : ∃ t, wt n = t := ⟨_, rfl⟩
      have CX := Lib.hid (fun w hG => exe_word hn ht hf w hG)
      rw [hf] at C6 hfl
      rw [ht] at C4 C5 hT
      have C7 := Lib.hid (fun w => digits_any f w (by omega))
      have hF : (dec f).length ≤ 9 := dec_length 8 (by omega)
      clear hf ht hn hfl hin k0 k1
      generalize dec f = F at *
      generalize dec t = T at *
      generalize dec n = D at *
      generalize wText n = W at *
      go_wp2_with fail
      refine (C1.out _).mono ?_
      rintro e w2 ⟨rfl, hs2⟩
      have hb2 := hb1.trans (hs2.mono hb1.size)
      go_wp2_with fail
      refine (C2.out _).mono ?_
      rintro e w' ⟨rfl, rfl⟩
      go_wp2_with fail
      refine (C3.out _).mono ?_
      rintro e w3 ⟨rfl, hs3⟩
      have hb3 := hb2.trans (hs3.mono hb2.size)
      go_wp2_with fail
      refine (CX.out _ (HG.out.kept hb3)).mono ?_
      rintro e w4 ⟨rfl, hs4⟩
      have hb4 := hb3.trans (hs4.mono hb3.size)
      go_wp2_with fail
      refine (C4.out _).mono ?_
      rintro e w' ⟨rfl, rfl⟩
      go_wp2_with fail
      refine (C5.out _).mono ?_
      rintro e w5 ⟨rfl, hs5⟩
      have hb5 := hb4.trans (hs5.mono hb4.size)
      go_wp2_with fail
      refine (C6.out _).mono ?_
      rintro e w6 ⟨rfl, hs6⟩
      have hb6 := hb5.trans (hs6.mono hb5.size)
      go_wp2_with fail
      refine (C7.out _).mono ?_
      rintro e w7 ⟨rfl, hs7⟩
      have hb7 := hb6.trans (hs7.mono hb6.size)
      go_wp2_with fail
      go_ret
      exact ⟨rfl, hb7⟩

set_option maxRecDepth 100000 in
theorem lifted (os : Os) (started : os.Started) (H : Type) (enc : TypeId × Value → H) :
    ReturnsInHanded {} Tryz.checked os 7 .any (fun w args => (Rows.fnExecuteWordSpec.pre enc Tryz.prog Tryz.f7 [] false w args ∧ laidMetH Tryz.prog laidL w) ∧ sizedMet enc Tryz.prog Tryz.f7 (OpenSpec.ofChange Rows.fnExecuteWordSpec) false w args) (Rows.fnExecuteWordSpec.post enc Tryz.prog Tryz.f7 false true false false) := by
  refine returns_laid (C := Tryz.checked) (X := fun w _ => laidMetH Tryz.prog laidL w) (fun _ _ _ hh h => h.of_heap hh) own started (by kernel_rfl) Tryz.func7
    (ChangeSpec.witness_shaped (enc := enc) (C := Tryz.checked) (os := os) (X := fun w _ => laidMetH Tryz.prog laidL w) false (wWorld os) #[.slice none 0 0] 8 (World.laidAll_os _ _ _) (w_shaped os _) (by kernel_rfl) (by kernel_rfl) (by kernel_rfl) (w_laid os _)) ?_
  intro W base args ds gs before hval0 hW hL hsh
  have hGl := gl_of hL hsh
  have hval : ∀ (j : Nat) t v, Tryz.f7.params[j]? = some t → args[j]? = some v → Value.okWide Tryz.prog W .any base t v := hval0
  have hW' := hW
  obtain ⟨p, q, hA0, hV, rfl, hfz, hnd⟩ := hW
  have hA : DataW.TrodAll enc Tryz.prog W 0 (fun _ => true) true Tryz.f7.params.toList args.toList ds p := hA0
  rw [Tryz.params7] at hA hval
  obtain ⟨v0, vs0, d0, ds0, p0, q0, hargs, rfl, rfl, h0, r0⟩ := trodAll_cons hA
  obtain ⟨rfl, rfl, rfl⟩ := trodAll_nil r0
  obtain rfl : args = #[v0] := by cases args; simp_all
  obtain ⟨rfl, rfl⟩ := trodVars_none hV
  obtain ⟨a0, len0, cap0, rfl⟩ := okWide_slice Tryz.underlying22 (hval 0 22 v0 rfl rfl)
  have k0 := h0
  have lt0 : ∀ x ∈ p0, x.block < W.heap.size := by obtain ⟨m, hm⟩ := k0; exact DataW.trod_lt m _ _ _ hm
  obtain ⟨z0, w0⟩ : ∃ zs, IsRow .u8 W a0 len0 cap0 zs := by
    obtain ⟨fuel, hf⟩ := h0
    rcases open_ints Tryz.underlying22 Tryz.underlying5 (by kernel_rfl) hf with ⟨hcs, _⟩ | ⟨x, l, c, zs, hcs, _, hl, hm, hz, _, hcell, hwz⟩
    · simp [Value.cells] at hcs
      obtain ⟨rfl, rfl, rfl⟩ := hcs
      exact ⟨[], .inl ⟨rfl, rfl, rfl, rfl⟩⟩
    · simp [Value.cells] at hcs
      obtain ⟨rfl, rfl, rfl⟩ := hcs
      exact ⟨zs, .inr ⟨_, rfl, hl, hm, by simpa using hz, hcell, hwz⟩⟩
  clear hA0 hval0
  refine (walk a0 len0 cap0 z0 W w0 hGl).mono fun e W' ⟨he, bel⟩ => ?_
  subst he
  exact ⟨_, rfl, _, _, _, [], _, [], hW', trodAll_mk1 (shut_bool Tryz.underlying4 _), (trodAll_cons_mk (Below.trod laidOut (by kernel_rfl) (of_decide_eq_true (by kernel_rfl)) k0 bel lt0) trodAll_mk0), rfl, bel.frame _, fun h => by cases h⟩

theorem closed : joinedFacts Tryz.checked.prog 7 Tryz.f7 Rows.fnExecuteWordSpec Rows.fnExecuteWordRow = true := by
  unfold joinedFacts
  rw [may, made, lifts]
  kernel_rfl

theorem over : Rows.fnExecuteWordRow.holds Tryz.pinned (OpenSpec.ofChange Rows.fnExecuteWordSpec) :=
  OpenClaim.holds_of_wide 7 Tryz.f7 rfl rfl rfl rfl rfl rfl rfl ⟨rfl, rfl, rfl, rfl, rfl⟩ rfl rfl rfl rfl rfl (by kernel_rfl) Tryz.func7 closed
    (of_decide_eq_true (by kernel_rfl)) (by unfold Func.isWrapper; first | (rw [if_pos (by decide +kernel)]; kernel_rfl) | (rw [if_neg (by decide +kernel)]; exact ⟨rfl, rfl⟩))
    (fun os started H enc _ => lifted os started H enc)

/-- The given statement. -/
theorem proved : Rows.FnExecuteWordCardSaid :=
  Claim7.holds_tied_plain_at .later [] [.data, .data, .data, .data, .sentinel, .sentinel, .pinned] true (true, "a73d649fc09ca5b53a2cbbb6acfca38d66e98a5710aa0dbb4462849d6badc29f") true over (fun _ h => by cases h) (by kernel_rfl) (fun _ h => by cases h) fnExecuteWord_row_tie rfl ⟨rfl, rfl⟩ (by kernel_rfl) rfl
    (fun f fn hf hfn => by
      obtain rfl : f = 7 := Option.some.inj ((show Tryz.prog.funcNamed "loop.example/golayoctads/laws.FnExecuteWord" = some 7 by kernel_rfl).symm.trans hf) |>.symm
      obtain rfl : fn = Tryz.f7 := (Option.some.inj (Tryz.func7.symm.trans hfn)).symm
      exact ⟨by kernel_rfl, fun j t ht => by
        rw [Tryz.params7] at ht
        have hm : t ∈ [22] := by simpa using Array.mem_of_getElem? ht
        have hall : ([22].all fun u => !Tryz.prog.wantsStandIn u) = true := by kernel_rfl
        exact (show Tryz.prog.wantsStandIn t = false by simpa using List.all_eq_true.1 hall t hm)⟩)
    (by kernel_rfl)
#print axioms proved

end Go.Proofs.YtmgdcnibmifdeaaGreatDoor.fnExecuteWord
