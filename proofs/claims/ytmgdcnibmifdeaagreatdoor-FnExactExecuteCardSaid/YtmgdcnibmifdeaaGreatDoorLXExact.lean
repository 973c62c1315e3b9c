/- Proves the given statement on laws.FnExactExecute: whatever the input, the law returns true and its input reads as it did. No conditions. -/
import Derived.Test.YtmgdcnibmifdeaaGreatDoorFd
import Derived.Test.YtmgdcnibmifdeaaGreatDoorWXB
import Derived.Test.YtmgdcnibmifdeaaGreatDoorWMark
import Derived.Test.YtmgdcnibmifdeaaGreatDoorTie
import Derived.Test.YtmgdcnibmifdeaaGreatDoorCards
import Derived.SevenTiedAt
set_option linter.unusedVariables false
namespace Go.Proofs.YtmgdcnibmifdeaaGreatDoor.fnExactExecute
open Go.ChangeShapes Go.WideShapes Go.ChangeAt Go.RowKit
open Go.ChangeMaps (open_string shut_string)
open Res

set_option maxHeartbeats 1000000 in
theorem walk (a0 : ByteArray) (w : World) (w0 : a0.size ≤ maxLen) (hG : Gl w) :
    Calls Tryz.prog 9 #[.string a0] w fun e w' => e = .returned (.bool true) ∧ Below w.heap.size w w' := by
  obtain ⟨l, rfl⟩ : ∃ l : List UInt8, a0 = ⟨l.toArray⟩ := ⟨a0.data.toList, by simp⟩
  have hsz : (⟨l.toArray⟩ : ByteArray).size = l.length := by simp [ByteArray.size]
  by_cases hbig : 1048576 < l.length
  · have hbi : (1048576 : Int) < (l.length : Int) := by omega
    clear w0 hG
    go_enter Tryz.func9, Tryz.ntmps9
    go_wp2_with fail
    go_ret
    exact ⟨rfl, Below.refl _ _⟩
  · have hbi : ¬ (1048576 : Int) < (l.length : Int) := by omega
    have hb0 := Below.refl w.heap.size w
    have C1 := Lib.hid (fun w => specExecute_any l w (by omega))
    have C2 := Lib.hid (fun w hG => implExecute_any ⟨l.toArray⟩ w hG)
    have HG := Lib.hid hG
    have he : (⟨l.toArray⟩ : ByteArray).data.toList = l := rfl
    rw [he] at C2
    generalize exec l = X at *
    clear w0 hG hbig he
    go_enter Tryz.func9, Tryz.ntmps9
    go_wp2_with fail
    refine (C1.out _).mono ?_
    rintro e w1 ⟨rfl, hs1⟩
    have hb1 := hb0.trans (hs1.mono hb0.size)
    go_wp2_with fail
    refine (C2.out _ (HG.out.kept hb1)).mono ?_
    rintro e w2 ⟨rfl, hs2⟩
    have hb2 := hb1.trans (hs2.mono hb1.size)
    go_wp2_with fail
    go_ret
    exact ⟨rfl, hb2⟩

set_option maxRecDepth 100000 in
theorem lifted (os : Os) (started : os.Started) (H : Type) (enc : TypeId × Value → H) :
    ReturnsInHanded {} Tryz.checked os 9 .any (fun w args => (Rows.fnExactExecuteSpec.pre enc Tryz.prog Tryz.f9 [] false w args ∧ laidMetH Tryz.prog laidL w) ∧ sizedMet enc Tryz.prog Tryz.f9 (OpenSpec.ofChange Rows.fnExactExecuteSpec) false w args) (Rows.fnExactExecuteSpec.post enc Tryz.prog Tryz.f9 false true false false) := by
  refine returns_laid (C := Tryz.checked) (X := fun w _ => laidMetH Tryz.prog laidL w) (fun _ _ _ hh h => h.of_heap hh) own started (by kernel_rfl) Tryz.func9
    (ChangeSpec.witness_shaped (enc := enc) (C := Tryz.checked) (os := os) (X := fun w _ => laidMetH Tryz.prog laidL w) false (wWorld os) #[.string ByteArray.empty] 8 (World.laidAll_os _ _ _) (w_shaped os _) (by kernel_rfl) (by kernel_rfl) (by kernel_rfl) (w_laid os _)) ?_
  intro W base args ds gs before hval0 hW hL hsh
  have hGl := gl_of hL hsh
  have hval : ∀ (j : Nat) t v, Tryz.f9.params[j]? = some t → args[j]? = some v → Value.okWide Tryz.prog W .any base t v := hval0
  have hW' := hW
  obtain ⟨p, q, hA0, hV, rfl, hfz, hnd⟩ := hW
  have hA : DataW.TrodAll enc Tryz.prog W 0 (fun _ => true) true Tryz.f9.params.toList args.toList ds p := hA0
  rw [Tryz.params9] at hA hval
  obtain ⟨v0, vs0, d0, ds0, p0, q0, hargs, rfl, rfl, h0, r0⟩ := trodAll_cons hA
  obtain ⟨rfl, rfl, rfl⟩ := trodAll_nil r0
  obtain rfl : args = #[v0] := by cases args; simp_all
  obtain ⟨rfl, rfl⟩ := trodVars_none hV
  obtain ⟨a0, rfl, rfl, rfl, w0⟩ := open_string Tryz.underlying9 (hval 0 9 v0 rfl rfl) h0
  clear hA0 hval0
  refine (walk a0 W w0 hGl).mono fun e W' ⟨he, bel⟩ => ?_
  subst he
  exact ⟨_, rfl, _, _, _, [], _, [], hW', trodAll_mk1 (shut_bool Tryz.underlying4 _), (trodAll_cons_mk (shut_string Tryz.underlying9 w0) trodAll_mk0), rfl, bel.frame _, fun h => by cases h⟩

theorem closed : joinedFacts Tryz.checked.prog 9 Tryz.f9 Rows.fnExactExecuteSpec Rows.fnExactExecuteRow = true := by
  unfold joinedFacts
  rw [may, made, lifts]
  kernel_rfl

theorem over : Rows.fnExactExecuteRow.holds Tryz.pinned (OpenSpec.ofChange Rows.fnExactExecuteSpec) :=
  OpenClaim.holds_of_wide 9 Tryz.f9 rfl rfl rfl rfl rfl rfl rfl ⟨rfl, rfl, rfl, rfl, rfl⟩ rfl rfl rfl rfl rfl (by kernel_rfl) Tryz.func9 closed
    (of_decide_eq_true (by kernel_rfl)) (by unfold Func.isWrapper; first | (rw [if_pos (by decide +kernel)]; kernel_rfl) | (rw [if_neg (by decide +kernel)]; exact ⟨rfl, rfl⟩))
    (fun os started H enc _ => lifted os started H enc)

/-- The given statement. -/
theorem proved : Rows.FnExactExecuteCardSaid :=
  Claim7.holds_tied_plain_at .later [] [.data, .data, .data, .data, .sentinel, .sentinel, .pinned] true (true, "a73d649fc09ca5b53a2cbbb6acfca38d66e98a5710aa0dbb4462849d6badc29f") true over (fun _ h => by cases h) (by kernel_rfl) (fun _ h => by cases h) fnExactExecute_row_tie rfl ⟨rfl, rfl⟩ (by kernel_rfl) rfl
    (fun f fn hf hfn => by
      obtain rfl : f = 9 := Option.some.inj ((show Tryz.prog.funcNamed "loop.example/golayoctads/laws.FnExactExecute" = some 9 by kernel_rfl).symm.trans hf) |>.symm
      obtain rfl : fn = Tryz.f9 := (Option.some.inj (Tryz.func9.symm.trans hfn)).symm
      exact ⟨by kernel_rfl, fun j t ht => by
        rw [Tryz.params9] at ht
        have hm : t ∈ [9] := by simpa using Array.mem_of_getElem? ht
        have hall : ([9].all fun u => !Tryz.prog.wantsStandIn u) = true := by kernel_rfl
        exact (show Tryz.prog.wantsStandIn t = false by simpa using List.all_eq_true.1 hall t hm)⟩)
    (by kernel_rfl)
#print axioms proved

end Go.Proofs.YtmgdcnibmifdeaaGreatDoor.fnExactExecute
