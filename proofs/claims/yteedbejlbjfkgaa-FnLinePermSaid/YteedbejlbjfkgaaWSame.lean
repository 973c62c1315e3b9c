/- Contract of the laws' own comparison of lists. -/
import Derived.Test.YteedbejlbjfkgaaRd
import Derived.BigQuiet
import Derived.Deep.QuietTactic
set_option linter.unusedVariables false
namespace Go.Proofs.Yteedbejlbjfkgaa
open Go.RowKit

/-- Are two lists equal? -/
theorem sameInts_any (a b : Option Addr) (ca cb : Nat) (l m : List Int) (w : World) (hl : l.length ≤ 9223372036854775807) (hm : m.length ≤ 9223372036854775807)
    (hr : Reads .i64 w a l) (hs : Reads .i64 w b m) :
    Calls Try.prog 10 #[.slice a l.length ca, .slice b m.length cb] w fun e w' => e = .returned (.bool (decide (l = m))) ∧ Below w.heap.size w w' := by
  by_cases hlen : l.length = m.length
  · have Hn := Lib.hid hlen
    have hn : ((l.length : Int) != (m.length : Int)) = false := by simp [hlen]
    have hle : m.length ≤ l.length := by omega
    have hle2 : l.length ≤ m.length := by omega
    clear hlen
    go_enter Try.func10, Try.ntmps10
    go_wp2
    go_loopw [5] (fun x wr => ∃ k : Nat, k ≤ l.length ∧ x = .int .i64 (k : Int) ∧ l.take k = m.take k ∧ ∃ n, wr = w.drewN n)
      (fun x _ => (l.length - (intOf x).toNat))
    case atStart => exact ⟨0, by omega, rfl, rfl, 0, rfl⟩
    case round =>
      obtain ⟨k, hk, rfl, htk, nd, rfl⟩ := hrel
      have Ht := Lib.hid htk
      clear htk
      by_cases hlt : k < l.length
      · obtain ⟨b1, off1, ha, hb1, hc1⟩ := hr k hlt
        obtain ⟨b2, off2, hb, hb2, hc2⟩ := hs k (by omega)
        subst ha
        subst hb
        have hltm : k < m.length := by omega
        have hi1 : (k : Int) < (l.length : Int) := by omega
        have hi2 : (k : Int) < (m.length : Int) := by omega
        by_cases he : l.getD k 0 = m.getD k 0
        · have hb : (l[k] != m[k]) = false := by simpa [List.getD, hlt, hltm] using he
          have He := Lib.hid he
          clear he
          go_wp2
          go_quiet (fail)
          go_wp2
          go_roundw
          case rel =>
            refine ⟨k + 1, by omega, by go_num, ?_, _, rfl⟩
            rw [List.take_succ_eq_append_getElem hlt, List.take_succ_eq_append_getElem hltm, Ht.out]
            have := He.out
            simp only [List.getD, List.getElem?_eq_getElem hlt, List.getElem?_eq_getElem hltm, Option.getD_some] at this
            rw [this]
          case measure => simp [intOf]; omega
        · have hb : (l[k] != m[k]) = true := by simpa [List.getD, hlt, hltm] using he
          have hne : l ≠ m := fun h => he (by rw [h])
          have Hne := Lib.hid hne
          clear he hne
          go_wp2
          go_quiet (fail)
          go_wp2
          go_ret
          exact ⟨ret_bool (by have := Hne.out; simp [this]), below_drewN (below_drewN (Below.refl _ _) _) _⟩
      · have hkl : k = l.length := by omega
        have hlm : l = m := by
          have := Ht.out
          rw [hkl, List.take_length, Hn.out, List.take_length] at this
          exact this
        have Hlm := Lib.hid hlm
        clear hkl hlm
        go_wp2
        go_ret
        exact ⟨ret_bool (by have := Hlm.out; simp [this]), below_drewN (Below.refl _ _) _⟩
  · have hn : ((l.length : Int) != (m.length : Int)) = true := by
      have : ¬ (l.length : Int) = (m.length : Int) := by omega
      simp [this]
    have hne : l ≠ m := fun h => hlen (by rw [h])
    have Hne := Lib.hid hne
    clear hne hlen
    go_enter Try.func10, Try.ntmps10
    go_wp2
    go_ret
    exact ⟨ret_bool (by have := Hne.out; simp [this]), Below.refl _ _⟩

theorem sameInts_same (a b : Option Addr) (ca cb : Nat) (l : List Int) (w : World) (hl : l.length ≤ 9223372036854775807) (hr : Reads .i64 w a l) (hs : Reads .i64 w b l) :
    Calls Try.prog 10 #[.slice a l.length ca, .slice b l.length cb] w fun e w' => e = .returned (.bool true) ∧ Below w.heap.size w w' := by
  have h := sameInts_any a b ca cb l l w hl hl hr hs
  rw [decide_eq_true rfl] at h
  exact h

end Go.Proofs.Yteedbejlbjfkgaa
