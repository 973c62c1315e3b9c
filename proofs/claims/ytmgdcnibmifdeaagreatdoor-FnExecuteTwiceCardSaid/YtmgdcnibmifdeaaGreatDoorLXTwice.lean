/- Proves the given statement on laws.FnExecuteTwice: whatever the input, the law returns true and its input reads as it did. No conditions. -/
import Derived.Test.YtmgdcnibmifdeaaGreatDoorFd
import Derived.Test.YtmgdcnibmifdeaaGreatDoorWXA
import Derived.Test.YtmgdcnibmifdeaaGreatDoorWXB
import Derived.Test.YtmgdcnibmifdeaaGreatDoorWMark
import Derived.Test.YtmgdcnibmifdeaaGreatDoorTie
import Derived.Test.YtmgdcnibmifdeaaGreatDoorCards
import Derived.SevenTiedAt
set_option linter.unusedVariables false
namespace Go.Proofs.YtmgdcnibmifdeaaGreatDoor.fnExecuteTwice
open Go.ChangeShapes Go.WideShapes Go.ChangeAt Go.RowKit
open Go.ChangeMaps (open_string shut_string)
open Res

set_option maxHeartbeats 2000000 in
theorem walk (a0 : Option Addr) (len0 cap0 : Nat) (z0 : List Int) (w : World) (w0 : IsRow .u8 w a0 len0 cap0 z0) (hG : Gl w) :
    Calls Tryz.prog 4 #[.slice a0 len0 cap0] w fun e w' => e = .returned (.bool true) ∧ Below w.heap.size w w' := by
  obtain ⟨hc, hlen⟩ := w0.code
  clear w0
  generalize z0.take len0 = zl at *
  subst hlen
  by_cases hbig : 1048576 < zl.length
  · go_enter Tryz.func4, Tryz.ntmps4
    go_wp2
    go_ret
    exact ⟨rfl, Below.refl _ _⟩
  · have hl : (zl.length : Int) ≤ 1048576 := by omega
    clear hbig
    have HG := Lib.hid hG
    clear hG
    go_enter Tryz.func4, Tryz.ntmps4
    go_wp2_with fail
    refine (DrawExecute_any _ _ zl _ hc).mono ?_
    rintro e w1 ⟨l, rfl, hll, hb1⟩
    have hlI : (l.length : Int) ≤ 1000 := by omega
    have C1 := Lib.hid (fun w hG => implExecute_any ⟨l.toArray⟩ w hG)
    have C2 := Lib.hid (fun w => specExecute_any l w (by omega))
    have CC := Lib.hid (fun w => complete_any l w (by omega))
    have he : (⟨l.toArray⟩ : ByteArray).data.toList = l := rfl
    rw [he] at C1
    clear he
    generalize exec l = X at *
    clear hll
    go_wp2_with fail
    refine (C1.out _ (HG.out.kept hb1)).mono ?_
    rintro e w2 ⟨rfl, hs2⟩
    have hb2 := hb1.trans (hs2.mono hb1.size)
    go_wp2_with fail
    refine (C2.out _).mono ?_
    rintro e w3 ⟨rfl, hs3⟩
    have hb3 := hb2.trans (hs3.mono hb2.size)
    go_wp2_with fail
    refine (CC.out _).mono ?_
    rintro e w' ⟨s, rfl, hs, rfl⟩
    obtain ⟨hse, -, hsl⟩ := hs
    have hsI : (s.length : Int) ≤ 1000 := by omega
    by_cases h59 : 590 < s.length
    · have h59i : (590 : Int) < (s.length : Int) := by omega
      clear h59 hse hsl
      go_wp2_with fail
      go_ret
      exact ⟨rfl, hb3⟩
    · have h59i : ¬ (590 : Int) < (s.length : Int) := by omega
      have h60 : s.length ≤ 590 := by omega
      have hLS := exe_last (s := s) (by omega)
      have hAl : (exA s).length ≤ 50001 * 601 := exA_len (by omega)
      have hXl := exX_len s
      have hEq := exe_plain (s := s) (by omega)
      have hE := hLS.length
      have CA := Lib.hid (fun w hG => exe_lit (rfl : exec s = exec s) (S := ⟨s.toArray⟩) rfl (T := ⟨(exec s).toArray⟩) rfl w hG)
      have CL := Lib.hid (fun w => lastLine_any (exec s) (exA s) (exX s) w (by omega) hLS)
      have hTk : (exec s).take (exA s).length = exA s := by rw [hEq, List.take_left]
      have hSA := fun w => slc_to (exec s) (exA s).length (by omega) w
      rw [hTk] at hSA
      have CB := Lib.hid (fun w hG => exe_lit (exe_show hse h60) (S := (⟨s.toArray⟩ : ByteArray) ++ ⟨#[115, 104, 111, 119, 10]⟩) (str_app s [115, 104, 111, 119, 10])
        (T := ⟨(exA s ++ (wText (exN s) ++ [10]) ++ (exX s ++ [10])).toArray⟩) rfl w hG)
      have CX := Lib.hid (fun w hG => exe_lit (exe_show2 hse h60) (S := (⟨s.toArray⟩ : ByteArray) ++ ⟨#[115, 104, 111, 119, 10, 115, 104, 111, 119, 10]⟩) (str_app s [115, 104, 111, 119, 10, 115, 104, 111, 119, 10])
        (T := (⟨(exA s).toArray⟩ : ByteArray) ++ ⟨(wText (exN s) ++ [10]).toArray⟩ ++ ⟨(wText (exN s) ++ [10]).toArray⟩ ++ ⟨(exX s ++ [10]).toArray⟩)
        ((congrArg (· ++ (⟨(exX s ++ [10]).toArray⟩ : ByteArray)) ((congrArg (· ++ (⟨(wText (exN s) ++ [10]).toArray⟩ : ByteArray)) (str_app (exA s) (wText (exN s) ++ [10]))).trans (str_app _ _))).trans ((str_app _ _).trans (by simp only [List.append_assoc]))) w hG)
      have hWl : (wText (exN s) ++ [10]).length = 28 := by rw [List.length_append, wText_length]; rfl
      clear hTk hLS hEq hse hsl h60 h59
      have hL1 : (exX s ++ [10]).length = (exX s).length + 1 := by simp
      have hFl : (exA s ++ (wText (exN s) ++ [10]) ++ (exX s ++ [10])).length = (exA s).length + (wText (exN s) ++ [10]).length + (exX s ++ [10]).length := by simp only [List.length_append]
      have hSF := fun w => slc_l (exA s ++ (wText (exN s) ++ [10]) ++ (exX s ++ [10])) (exA s).length ((exA s).length + (wText (exN s) ++ [10]).length) (by omega) (by omega) w
      have hpc : ((exA s ++ (wText (exN s) ++ [10]) ++ (exX s ++ [10])).drop (exA s).length).take ((exA s).length + (wText (exN s) ++ [10]).length - (exA s).length) = wText (exN s) ++ [10] := by
        rw [List.append_assoc (exA s), List.drop_left, Nat.add_sub_cancel_left, List.take_left]
      rw [hpc] at hSF
      clear hpc
      obtain ⟨q, hq⟩ : ∃ q, (exA s).length + (wText (exN s) ++ [10]).length = q := ⟨_, rfl⟩
      rw [hq] at hSF hFl
      generalize exA s ++ (wText (exN s) ++ [10]) ++ (exX s ++ [10]) = F at *
      generalize exec s = E at *
      generalize exA s = A at *
      generalize exX s ++ [10] = L at *
      generalize wText (exN s) ++ [10] = W at *
      have hd : (E.length : Int) - (L.length : Int) = (A.length : Int) := by omega
      have hdF : (F.length : Int) - (L.length : Int) = (q : Int) := by omega
      have hw1 : IntKind.i64.wrap ((E.length : Int) - (L.length : Int)) = (E.length : Int) - (L.length : Int) := IntWalk.i64_in _ (by omega)
      have hw2 : IntKind.i64.wrap ((A.length : Int)) = (A.length : Int) := IntWalk.i64_in _ (by omega)
      have hEl : E.length ≤ 60000000 := by omega
      have hFl2 : F.length ≤ 60000000 := by omega
      have hLl : L.length ≤ 100 := by omega
      have hWl2 : W.length ≤ 100 := by omega
      have hAl2 : A.length ≤ 50000000 := by omega
      clear hE hL1 hXl hAl hq hFl hWl
      go_wp2_with fail
      refine (CA.out _ (HG.out.kept hb3)).mono ?_
      rintro e w4 ⟨rfl, hs4⟩
      have hb4 := hb3.trans (hs4.mono hb3.size)
      go_wp2_with fail
      refine (CL.out _).mono ?_
      rintro e w' ⟨rfl, rfl⟩
      go_wp2_with fail
      refine (CB.out _ (HG.out.kept hb4)).mono ?_
      rintro e w5 ⟨rfl, hs5⟩
      have hb5 := hb4.trans (hs5.mono hb4.size)
      have HG5 := Lib.hid (HG.out.kept hb5)
      go_wp2_with fail
      go_region_with (go_at_call 11; refine (CX.out _ ?_).mono ?_; (first | exact HG5.out | exact HG5.out.kept (Below.refl _ _).drew); rintro e w6 ⟨rfl, hs6⟩)
      all_goals
        go_wp2_with fail
        go_ret
        have hbf : Below w5.heap.size w5 w6 := ⟨hs6.os, hs6.tape, hs6.output, hs6.size, hs6.block⟩
        first
          | exact ⟨rfl, hb5.trans (hbf.mono hb5.size)⟩
          | exact ⟨rfl, hb5.trans (hbf.drew.mono hb5.size)⟩

set_option maxRecDepth 100000 in
theorem lifted (os : Os) (started : os.Started) (H : Type) (enc : TypeId × Value → H) :
    ReturnsInHanded {} Tryz.checked os 4 .any (fun w args => (Rows.fnExecuteTwiceSpec.pre enc Tryz.prog Tryz.f4 [] false w args ∧ laidMetH Tryz.prog laidL w) ∧ sizedMet enc Tryz.prog Tryz.f4 (OpenSpec.ofChange Rows.fnExecuteTwiceSpec) false w args) (Rows.fnExecuteTwiceSpec.post enc Tryz.prog Tryz.f4 false true false false) := by
  refine returns_laid (C := Tryz.checked) (X := fun w _ => laidMetH Tryz.prog laidL w) (fun _ _ _ hh h => h.of_heap hh) own started (by kernel_rfl) Tryz.func4
    (ChangeSpec.witness_shaped (enc := enc) (C := Tryz.checked) (os := os) (X := fun w _ => laidMetH Tryz.prog laidL w) false (wWorld os) #[.slice none 0 0] 8 (World.laidAll_os _ _ _) (w_shaped os _) (by kernel_rfl) (by kernel_rfl) (by kernel_rfl) (w_laid os _)) ?_
  intro W base args ds gs before hval0 hW hL hsh
  have hGl := gl_of hL hsh
  have hval : ∀ (j : Nat) t v, Tryz.f4.params[j]? = some t → args[j]? = some v → Value.okWide Tryz.prog W .any base t v := hval0
  have hW' := hW
  obtain ⟨p, q, hA0, hV, rfl, hfz, hnd⟩ := hW
  have hA : DataW.TrodAll enc Tryz.prog W 0 (fun _ => true) true Tryz.f4.params.toList args.toList ds p := hA0
  rw [Tryz.params4] at hA hval
  obtain ⟨v0, vs0, d0, ds0, p0, q0, hargs, rfl, rfl, h0, r0⟩ := trodAll_cons hA
  obtain ⟨rfl, rfl, rfl⟩ := trodAll_nil r0
  obtain rfl : args = #[v0] := by cases args; simp_all
  obtain ⟨rfl, rfl⟩ := trodVars_none hV
  obtain ⟨a0, len0, cap0, rfl⟩ := okWide_slice Tryz.underlying22 (hval 0 22 v0 rfl rfl)
  have k0 := h0
  have lt0 : ∀ x ∈ p0, x.block < W.heap.size := by obtain ⟨m, hm⟩ := k0; exact DataW.trod_lt m _ _ _ hm
  obtain ⟨z0, w0⟩ : ∃ zs, IsRow .u8 W a0 len0 cap0 zs := by
    obtain ⟨fuel, hf⟩ := h0
    rcases open_ints Tryz.underlying22 Tryz.underlying5 (by kernel_rfl) hf with ⟨hcs, _⟩ | ⟨x, l, c, zs, hcs, _, hl, hm, hz, _, hcell, hwz⟩
    · simp [Value.cells] at hcs
      obtain ⟨rfl, rfl, rfl⟩ := hcs
      exact ⟨[], .inl ⟨rfl, rfl, rfl, rfl⟩⟩
    · simp [Value.cells] at hcs
      obtain ⟨rfl, rfl, rfl⟩ := hcs
      exact ⟨zs, .inr ⟨_, rfl, hl, hm, by simpa using hz, hcell, hwz⟩⟩
  clear hA0 hval0
  refine (walk a0 len0 cap0 z0 W w0 hGl).mono fun e W' ⟨he, bel⟩ => ?_
  subst he
  exact ⟨_, rfl, _, _, _, [], _, [], hW', trodAll_mk1 (shut_bool Tryz.underlying4 _), (trodAll_cons_mk (Below.trod laidOut (by kernel_rfl) (of_decide_eq_true (by kernel_rfl)) k0 bel lt0) trodAll_mk0), rfl, bel.frame _, fun h => by cases h⟩

theorem closed : joinedFacts Tryz.checked.prog 4 Tryz.f4 Rows.fnExecuteTwiceSpec Rows.fnExecuteTwiceRow = true := by
  unfold joinedFacts
  rw [may, made, lifts]
  kernel_rfl

theorem over : Rows.fnExecuteTwiceRow.holds Tryz.pinned (OpenSpec.ofChange Rows.fnExecuteTwiceSpec) :=
  OpenClaim.holds_of_wide 4 Tryz.f4 rfl rfl rfl rfl rfl rfl rfl ⟨rfl, rfl, rfl, rfl, rfl⟩ rfl rfl rfl rfl rfl (by kernel_rfl) Tryz.func4 closed
    (of_decide_eq_true (by kernel_rfl)) (by unfold Func.isWrapper; first | (rw [if_pos (by decide +kernel)]; kernel_rfl) | (rw [if_neg (by decide +kernel)]; exact ⟨rfl, rfl⟩))
    (fun os started H enc _ => lifted os started H enc)

/-- The given statement. -/
theorem proved : Rows.FnExecuteTwiceCardSaid :=
  Claim7.holds_tied_plain_at .later [] [.data, .data, .data, .data, .sentinel, .sentinel, .pinned] true (true, "a73d649fc09ca5b53a2cbbb6acfca38d66e98a5710aa0dbb4462849d6badc29f") true over (fun _ h => by cases h) (by kernel_rfl) (fun _ h => by cases h) fnExecuteTwice_row_tie rfl ⟨rfl, rfl⟩ (by kernel_rfl) rfl
    (fun f fn hf hfn => by
      obtain rfl : f = 4 := Option.some.inj ((show Tryz.prog.funcNamed "loop.example/golayoctads/laws.FnExecuteTwice" = some 4 by kernel_rfl).symm.trans hf) |>.symm
      obtain rfl : fn = Tryz.f4 := (Option.some.inj (Tryz.func4.symm.trans hfn)).symm
      exact ⟨by kernel_rfl, fun j t ht => by
        rw [Tryz.params4] at ht
        have hm : t ∈ [22] := by simpa using Array.mem_of_getElem? ht
        have hall : ([22].all fun u => !Tryz.prog.wantsStandIn u) = true := by kernel_rfl
        exact (show Tryz.prog.wantsStandIn t = false by simpa using List.all_eq_true.1 hall t hm)⟩)
    (by kernel_rfl)
#print axioms proved

end Go.Proofs.YtmgdcnibmifdeaaGreatDoor.fnExecuteTwice
